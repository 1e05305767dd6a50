/-
 The abstract machine is sound: operations, regions, code, functions, calls.
-/
import Derived.Test.YtfbeplbcaanimaaGreatMB
set_option linter.unusedVariables false
set_option linter.unusedSimpArgs false
namespace Go.Proofs.YtfbeplbcaanimaaGreat
open Go.RowKit
section
variable {P : Program} {base nt : Nat} {w0 w w' : World} {ι0 ι ι' : Nat → Nat × Nat} {m0 m m' : List Blk} {a : Act} {o : Oper} {st : St} {e : Nat} {wr : Nat}
 {call : FuncId → List V → List Blk → Option Ret} {env : List (Nat × V)}
def RetOk (base : Nat) (w : World) (ι : Nat → Nat × Nat) (m : List Blk) (ret : Ret) (e : Ending) (w' : World) : Prop :=
 ∃ r ι', e = .returned r ∧ VR w' ι' ret.mem ret.v r ∧ MR base w ι m w' ι' ret.mem ret.esc ret.wr
def FnOk (P : Program) (f : FuncId) : Prop := ∃ fn, P.funcs[f]? = some fn ∧ fn.body ≠ none ∧ fn.name ≠ "runtime.NumGoroutine"
def CallOk (P : Program) (call : FuncId → List V → List Blk → Option Ret) : Prop :=
 ∀ (f : FuncId) (args : List V) (m : List Blk) (ret : Ret), call f args m = some ret → FnOk P f ∧ ∀ (base : Nat) (w : World) (ι : Nat → Nat × Nat) (ras : List Value), Sim base w ι m → args.length = ras.length →
  (∀ (j : Nat) (v : V), args[j]? = some v → ∃ r, ras[j]? = some r ∧ VR w ι m v r) → Calls P f ras.toArray w (RetOk base w ι m ret)
theorem args_VR (he : EnvR w ι m env a) (l : List Operand) : ((l.map trO).map (·.ev env)).length = (l.map a.eval).length ∧ ∀ (j : Nat) (v : V), ((l.map trO).map (·.ev env))[j]? = some v → ∃ r, (l.map a.eval)[j]? = some r ∧ VR w ι m v r := by
 refine ⟨by simp, fun j v hj => ?_⟩
 simp only [List.getElem?_map, Option.map_eq_some_iff] at hj
 obtain ⟨y, ⟨x, hx, rfl⟩, rfl⟩ := hj
 exact ⟨a.eval x, by simp [hx], ev_VR he x⟩
theorem run_call {c : Call} {f : FuncId} (ho : o.op = .call c) {x : Operand} (hx : c.callee = .value x) (hv : a.eval x = .func (.func f) #[] #[]) (hb : FnOk P f) (w : World) :
  (execOp a.eval o).run P w = .ok (.enter f (c.args.map a.eval)) w := by
 obtain ⟨fn, h1, h2, h3⟩ := hb
 simp [execOp, ho, resolve, hx, hv, Deferred.ofValue, invoke, callFunc, h1, h2, h3]
theorem run_callc {c : Call} {f : FuncId} (ho : o.op = .call c) {x : Operand} (hx : c.callee = .value x) {cs : Array Value} (hv : a.eval x = .func (.func f) #[] cs) (hb : FnOk P f) (w : World) :
  (execOp a.eval o).run P w = .ok (.enter f (c.args.map a.eval ++ cs)) w := by
 obtain ⟨fn, h1, h2, h3⟩ := hb
 simp [execOp, ho, resolve, hx, hv, Deferred.ofValue, invoke, callFunc, h1, h2, h3]
theorem args_VRc (he : EnvR w ι m env a) (l : List Operand) (ns : List (IntKind × Int)) : ((l.map trO).map (·.ev env) ++ capV ns).length = (l.map a.eval ++ ns.map fun p => Value.int p.1 p.2).length ∧
  ∀ (j : Nat) (v : V), ((l.map trO).map (·.ev env) ++ capV ns)[j]? = some v → ∃ r, (l.map a.eval ++ ns.map fun p => Value.int p.1 p.2)[j]? = some r ∧ VR w ι m v r := by
 obtain ⟨h1, h2⟩ := args_VR he l
 refine ⟨by simp [capV], fun j v hj => ?_⟩
 by_cases hl : j < l.length
 ·rw [List.getElem?_append_left (by simpa using hl)] at hj ⊢
  exact h2 j v hj
 ·rw [List.getElem?_append_right (by simpa using Nat.le_of_not_lt hl)] at hj ⊢
  simp only [List.length_map] at hj ⊢
  simp only [capV, List.getElem?_map, Option.map_eq_some_iff] at hj
  obtain ⟨p, hp, rfl⟩ := hj
  exact ⟨_, by rw [List.getElem?_map, hp]; rfl, .c (.int _ _)⟩
theorem MR.called {ret : Ret} (h : MR base w0 ι0 m0 w ι m e wr) (k : MR base w ι m w' ι' ret.mem ret.esc ret.wr) :
  MR base w0 ι0 m0 w' ι' ret.mem (mx e ret.esc) (mx wr (ret.wr - (m.length - m0.length))) where
 sim := k.sim
 evo := h.evo.trans k.evo
 fr := h.fr.trans h.fresh k.fr
 fresh := Fresh.trans h.fr.size h.fresh k.fresh
 refs0 := h.refs0
 bel := by
  have hl := h.evo.len
  rw [mx_eq]
  refine ⟨fun b hb => (k.bel.1 b (by omega)).trans (h.bel.1 b (by omega)), fun g hg hn => ?_⟩
  rw [← h.bel.2 g hg fun b blk hb hm ho => hn b blk (by omega) hm ho]
  refine k.bel.2 g (Nat.lt_of_lt_of_le hg h.fr.size) fun b blk hb hm ho he => ?_
  obtain ⟨b1, blk1, g1, g2, g3⟩ := h.fresh b blk hm ho (by omega)
  have hlt : b1 < m0.length - max wr (ret.wr - (m.length - m0.length)) := Classical.byContradiction fun hc => hn b1 blk1 (by omega) g1 g2 (by omega)
  have hm1 : m[b1]? = some blk1 := (h.bel.1 b1 (by omega)).trans g1
  obtain ⟨blk2, k1, k'⟩ := h.evo b1 blk1 g1
  obtain ⟨k2, k3, k4, k5⟩ := k' ⟨.inl g2⟩
  rw [hm1] at k1
  injection k1 with k1
  subst k1
  have k6 := (k5 rfl).1
  have := h.sim.inj b1 b blk1 blk hm1 hm g2 ho (by rw [k6]; exact g3)
  omega
 esc b blk c hb hc := by
  rw [mx_eq]
  rcases k.esc b blk c hb hc with h1 | ⟨blk0, h1, h2⟩
  ·exact .inl (by omega)
  ·rcases h.esc b blk0 c h1 h2 with h3 | h3
   ·exact .inl (by omega)
   ·exact .inr h3
theorem wp_call (hC : CallOk P call) (h : SR P base nt w0 ι0 m0 w ι st a) {c : Call} {f : FuncId} (ho : o.op = .call c) {x : Operand} (hx : c.callee = .value x) (hv : a.eval x = .func (.func f) #[] #[]) {ret : Ret}
  (hr : call f ((c.args.toList.map trO).map (·.ev st.env)) st.mem = some ret) {K : Act → World → Prop} {Q : Exit → Act → World → Prop}
  (hK : ∀ w' ι' r, VR w' ι' ret.mem ret.v r → MR base w0 ι0 m0 w' ι' ret.mem (mx st.esc ret.esc) (mx st.wr (ret.wr - (st.mem.length - m0.length))) → Evo w ι st.mem w' ι' ret.mem → K (a.put o.dst r) w') : o.wp P a w K Q := by
 obtain ⟨hf, hcall⟩ := hC f _ st.mem ret hr
 obtain ⟨h1, h2⟩ := args_VR h.env c.args.toList
 have hc := hcall base w ι (c.args.toList.map a.eval) h.mem.sim h1 h2
 unfold Oper.wp
 rw [run_call ho hx hv hf w, Oper.upon_enter]
 have ha : (c.args.toList.map a.eval).toArray = c.args.map a.eval := by apply Array.ext'; simp
 rw [← ha]
 refine hc.mono fun e w' ⟨r, ι', he, hv', hm⟩ => ?_
 subst he
 exact hK w' ι' r hv' (h.mem.called hm) hm.evo
theorem wp_callc (hC : CallOk P call) (h : SR P base nt w0 ι0 m0 w ι st a) {c : Call} {f : FuncId} (ho : o.op = .call c) {x : Operand} (hx : c.callee = .value x) {ns : List (IntKind × Int)} (hv : a.eval x = .func (.func f) #[] (ns.map fun p => Value.int p.1 p.2).toArray) {ret : Ret}
  (hr : call f ((c.args.toList.map trO).map (·.ev st.env) ++ capV ns) st.mem = some ret) {K : Act → World → Prop} {Q : Exit → Act → World → Prop}
  (hK : ∀ w' ι' r, VR w' ι' ret.mem ret.v r → MR base w0 ι0 m0 w' ι' ret.mem (mx st.esc ret.esc) (mx st.wr (ret.wr - (st.mem.length - m0.length))) → Evo w ι st.mem w' ι' ret.mem → K (a.put o.dst r) w') : o.wp P a w K Q := by
 obtain ⟨hf, hcall⟩ := hC f _ st.mem ret hr
 obtain ⟨h1, h2⟩ := args_VRc h.env c.args.toList ns
 have hc := hcall base w ι (c.args.toList.map a.eval ++ ns.map fun p => Value.int p.1 p.2) h.mem.sim h1 h2
 unfold Oper.wp
 rw [run_callc ho hx hv hf w, Oper.upon_enter]
 have ha : (c.args.toList.map a.eval ++ ns.map fun p => Value.int p.1 p.2).toArray = c.args.map a.eval ++ (ns.map fun p => Value.int p.1 p.2).toArray := by apply Array.ext'; simp
 rw [← ha]
 refine hc.mono fun e w' ⟨r, ι', he, hv', hm⟩ => ?_
 subst he
 exact hK w' ι' r hv' (h.mem.called hm) hm.evo
theorem args_VRp (he : EnvR w ι m env a) (l : List Operand) {c : C} {r : Value} (hc : CR w ι m c r) : ((l.map trO).map (·.ev env) ++ [V.c c]).length = (l.map a.eval ++ [r]).length ∧
  ∀ (j : Nat) (v : V), ((l.map trO).map (·.ev env) ++ [V.c c])[j]? = some v → ∃ r', (l.map a.eval ++ [r])[j]? = some r' ∧ VR w ι m v r' := by
 obtain ⟨h1, h2⟩ := args_VR he l
 refine ⟨by simp, fun j v hj => ?_⟩
 by_cases hl : j < l.length
 ·rw [List.getElem?_append_left (by simpa using hl)] at hj ⊢
  exact h2 j v hj
 ·rw [List.getElem?_append_right (by simpa using Nat.le_of_not_lt hl)] at hj ⊢
  simp only [List.length_map] at hj ⊢
  have h0 : j - l.length = 0 := by
   have := List.getElem?_eq_some_iff.1 hj
   obtain ⟨h, _⟩ := this
   simpa using h
  rw [h0] at hj ⊢
  simp only [List.getElem?_cons_zero, Option.some.injEq] at hj
  subst hj
  exact ⟨r, rfl, .c hc⟩
theorem wp_callp (hC : CallOk P call) (h : SR P base nt w0 ι0 m0 w ι st a) {c : Call} {f : FuncId} (ho : o.op = .call c) {x : Operand} (hx : c.callee = .value x) {cc : C} {rc : Value} (hcc : CR w ι st.mem cc rc) (hv : a.eval x = .func (.func f) #[] #[rc]) {ret : Ret}
  (hr : call f ((c.args.toList.map trO).map (·.ev st.env) ++ [.c cc]) st.mem = some ret) {K : Act → World → Prop} {Q : Exit → Act → World → Prop}
  (hK : ∀ w' ι' r, VR w' ι' ret.mem ret.v r → MR base w0 ι0 m0 w' ι' ret.mem (mx st.esc ret.esc) (mx st.wr (ret.wr - (st.mem.length - m0.length))) → Evo w ι st.mem w' ι' ret.mem → K (a.put o.dst r) w') : o.wp P a w K Q := by
 obtain ⟨hf, hcall⟩ := hC f _ st.mem ret hr
 obtain ⟨h1, h2⟩ := args_VRp h.env c.args.toList hcc
 have hc := hcall base w ι (c.args.toList.map a.eval ++ [rc]) h.mem.sim h1 h2
 unfold Oper.wp
 rw [run_callc ho hx hv hf w, Oper.upon_enter]
 have ha : (c.args.toList.map a.eval ++ [rc]).toArray = c.args.map a.eval ++ #[rc] := by apply Array.ext'; simp
 rw [← ha]
 refine hc.mono fun e w' ⟨r, ι', he, hv', hm⟩ => ?_
 subst he
 exact hK w' ι' r hv' (h.mem.called hm) hm.evo
theorem wp_doesL {v : V} {st' : St} (hd : DoesL P base w0 ι0 m0 w ι st.mem a o v st') {K : Act → World → Prop} {Q : Exit → Act → World → Prop}
  (hK : ∀ w' ι' r, VR w' ι' st'.mem v r → MR base w0 ι0 m0 w' ι' st'.mem st'.esc st'.wr → Evo w ι st.mem w' ι' st'.mem → K (a.put o.dst r) w') : o.wp P a w K Q := by
 obtain ⟨w', ι', r, h1, h2, h3, h4⟩ := hd
 unfold Oper.wp
 rcases h1 with h1 | ⟨h1, rfl⟩
 ·rw [h1, Oper.upon_value]; exact hK w' ι' r h2 h3 h4
 ·rw [h1, Oper.upon_skip]; exact hK w' ι' _ h2 h3 h4
theorem wp_does {v : V} (h : SR P base nt w0 ι0 m0 w ι st a) (hd : Does P w ι st.mem a o v) {K : Act → World → Prop} {Q : Exit → Act → World → Prop}
  (hK : ∀ w' ι' r, VR w' ι' st.mem v r → MR base w0 ι0 m0 w' ι' st.mem st.esc st.wr → Evo w ι st.mem w' ι' st.mem → K (a.put o.dst r) w') : o.wp P a w K Q := by
 obtain ⟨r, h1, h2⟩ := hd
 unfold Oper.wp
 rw [h2 w (Below.refl _ _), Oper.upon_value]
 exact hK w ι r h1 h.mem (Evo.refl _ _ _)
end
section
variable {P : Program} {op : Op}
theorem inv_alloc {z : List C} {ty : TypeId} (ht : trI P op = some (.alloc z ty)) : op = .alloc ty ∧ zeroT P ty = some z := by
 cases op <;> simp only [trI] at ht <;> (repeat' split at ht) <;> simp_all [Option.bind_eq_some_iff, Option.map_eq_some_iff]
 obtain ⟨_, h, rfl, rfl⟩ := ht
 exact ⟨rfl, h⟩
theorem inv_box {x : Opd} {ty : TypeId} (ht : trI P op = some (.box x ty)) : ∃ y, op = .box ty y ∧ x = trO y := by
 cases op <;> simp only [trI] at ht <;> (repeat' split at ht) <;> simp_all [Option.bind_eq_some_iff, Option.map_eq_some_iff]
theorem inv_store {x y : Opd} {n : Nat} (ht : trI P op = some (.store x y n)) : ∃ t x' y', op = .store t x' y' ∧ szT P t = some n ∧ x = trO x' ∧ y = trO y' := by
 cases op <;> simp only [trI] at ht <;> (repeat' split at ht) <;> simp_all [Option.bind_eq_some_iff, Option.map_eq_some_iff]
 obtain ⟨_, h, rfl, rfl, rfl⟩ := ht
 exact ⟨_, _, _, ⟨rfl, rfl, rfl⟩, h, rfl, rfl⟩
theorem inv_call {f : FuncId} {l : List Opd} (ht : trI P op = some (.call f l)) : ∃ c, op = .call c ∧ c.callee = .value (.func f) ∧ l = c.args.toList.map trO := by
 cases op <;> simp only [trI] at ht <;> (repeat' split at ht) <;> simp_all [Option.bind_eq_some_iff, Option.map_eq_some_iff]
theorem trO_t {x : Operand} {b : Nat} (h : trO x = .t b) : x = .tmp b := by
 cases x <;> simp_all [trO]
theorem inv_mks {x : Opd} {z : List C} {e : TypeId} {b : Nat} (ht : trI P op = some (.mks x z e b)) : ∃ t tm i, op = .makeSlice t (.tmp tm) (.tmp tm) ∧ x = .t tm ∧ P.underlying t = some (.slice e) ∧ P.info? e = some i ∧ zeroT P e = some z ∧ i.size = z.length ∧ b = i.bytes := by
 cases op <;> simp only [trI] at ht <;> (repeat' split at ht) <;> simp_all [Option.bind_eq_some_iff, Option.map_eq_some_iff]
 rename_i h1 h2 h3 _
 obtain ⟨i, g1, z', g2, g3, rfl, rfl, rfl, rfl⟩ := ht
 exact ⟨_, _, ⟨rfl, trO_t h2, trO_t h3⟩, rfl, h1, i, g1, g2, g3, rfl⟩
theorem inv_lit {n esz : Nat} {z : List C} {ps : List (Nat × Opd)} {e : TypeId} (ht : trI P op = some (.lit n esz z ps e)) : ∃ t parts i, op = .buildSlice t n parts ∧ P.underlying t = some (.slice e) ∧ P.info? e = some i ∧ zeroT P e = some z ∧ i.size = z.length ∧ esz = i.size ∧ ps = parts.toList.map fun p => (p.1, trO p.2) := by
 cases op <;> simp only [trI] at ht <;> (repeat' split at ht) <;> simp_all [Option.bind_eq_some_iff, Option.map_eq_some_iff]
 rename_i h1
 obtain ⟨i, g1, z', g2, g3, rfl, rfl, rfl, rfl, rfl⟩ := ht
 exact ⟨_, _, ⟨rfl, rfl, rfl⟩, h1, i, g1, g2, g3, g3.symm, rfl⟩
theorem inv_app {x y : Opd} {e : TypeId} {esz bytes : Nat} (ht : trI P op = some (.app x y e esz bytes)) : ∃ c t x' y' i, op = .call c ∧ c.callee = .builtin .append ∧ c.args = #[x', y'] ∧ c.argTypes = #[t, t] ∧ P.underlying t = some (.slice e) ∧ P.info? e = some i ∧ esz = i.size ∧ bytes = i.bytes ∧ x = trO x' ∧ y = trO y' ∧ ∃ z, zeroT P e = some z ∧ i.size = z.length := by
 cases op <;> simp only [trI] at ht <;> (repeat' split at ht) <;> simp_all [Option.bind_eq_some_iff, Option.map_eq_some_iff]
 rename_i h1 _ _ _ _ h2 _ _ _ _ h3 h4 h5
 obtain ⟨i, g1, z', g2, g3, rfl, rfl, rfl, rfl, rfl⟩ := ht
 exact ⟨_, _, _, by apply Array.ext'; simpa using h2, by apply Array.ext'; simpa using h3, h4, i, g1, g3.symm, rfl, rfl, rfl, _, g2, g3⟩
theorem one?_some {l : List C} {z : C} (h : one? l = some z) : l = [z] := by
 match l, h with
 | [z'], h => simp only [one?, Option.some.injEq] at h; rw [h]
theorem inv_clr {x : Opd} {z : C} (ht : trI P op = some (.clr x z)) : ∃ c x' t e, op = .call c ∧ c.callee = .builtin .clear ∧ c.args = #[x'] ∧ c.argTypes = #[t] ∧ P.underlying t = some (.slice e) ∧ zeroT P e = some [z] ∧ x = trO x' := by
 cases op <;> simp only [trI] at ht <;> (repeat' split at ht) <;> simp_all [Option.bind_eq_some_iff, Option.map_eq_some_iff]
 rename_i h1 h2 h3 _ _ h4
 obtain ⟨l, g2, g3, rfl⟩ := ht
 rw [one?_some g3] at g2
 exact ⟨_, by apply Array.ext'; simpa using h2, _, by apply Array.ext'; simpa using h3, _, h4, g2, rfl⟩
theorem inv_callv {x : Opd} {l : List Opd} (ht : trI P op = some (.callv x l)) : ∃ c t, op = .call c ∧ c.callee = .value (.tmp t) ∧ x = .t t ∧ l = c.args.toList.map trO := by
 cases op <;> simp only [trI] at ht <;> (repeat' split at ht) <;> simp_all [Option.bind_eq_some_iff, Option.map_eq_some_iff]
end
section
variable {P : Program} {base nt : Nat} {w0 w w' : World} {ι0 ι ι' : Nat → Nat × Nat} {m0 m m' : List Blk} {a : Act} {o : Oper} {st : St} {e : Nat} {wr : Nat}
 {call : FuncId → List V → List Blk → Option Ret} {env : List (Nat × V)}
theorem step_sound (hC : CallOk P call) (h : SR P base nt w0 ι0 m0 w ι st a) {i : I} (ht : trI P o.op = some i) {v : V} {st' : St} (hs : stepL call m0.length st i = some (v, st')) {K : Act → World → Prop} {Q : Exit → Act → World → Prop}
  (hK : ∀ w' ι' r, VR w' ι' st'.mem v r → MR base w0 ι0 m0 w' ι' st'.mem st'.esc st'.wr → Evo w ι st.mem w' ι' st'.mem → K (a.put o.dst r) w') : st'.env = st.env ∧ o.wp P a w K Q := by
 have quiet : (stepQ st.env st.mem i).bind (fun v => some (v, st)) = some (v, st') → st'.env = st.env ∧ o.wp P a w K Q := by
  intro hs
  simp only [Option.bind_eq_some_iff, Option.some.injEq, Prod.mk.injEq] at hs
  obtain ⟨v', hq, rfl, rfl⟩ := hs
  exact ⟨rfl, wp_does h (stepQ_sound h.mem.sim h.env ht hq) hK⟩
 cases i with
 | alloc z ty =>
  obtain ⟨hop, hz⟩ := inv_alloc ht
  simp only [stepL, guard', Option.some.injEq, Prod.mk.injEq] at hs
  obtain ⟨rfl, rfl⟩ := hs
  exact ⟨rfl, wp_doesL (does_alloc h.mem hop hz) hK⟩
 | box x ty =>
  obtain ⟨y, hop, rfl⟩ := inv_box ht
  simp only [stepL, guard', Option.bind_eq_some_iff, Option.some.injEq, Prod.mk.injEq] at hs
  obtain ⟨z, hz, rfl, rfl⟩ := hs
  exact ⟨rfl, wp_doesL (does_box h.mem h.env hop hz) hK⟩
 | store x y n =>
  obtain ⟨t, x', y', hop, hz, rfl, rfl⟩ := inv_store ht
  simp only [stepL, guard'] at hs
  split at hs
  ·rename_i b off tot hp
   simp only [Option.bind_eq_some_iff] at hs
   obtain ⟨cs, hcs, hs⟩ := hs
   split at hs
   ·rename_i hn
    simp only [Option.bind_eq_some_iff, Option.some.injEq, Prod.mk.injEq] at hs
    obtain ⟨st1, hw, rfl, rfl⟩ := hs
    have henv : st1.env = st.env := by
     unfold wrt guard' at hw
     simp only [Option.bind_eq_some_iff] at hw
     obtain ⟨blk, _, hw⟩ := hw
     split at hw
     ·injection hw with hw; subst hw; rfl
     ·cases hw
    exact ⟨henv, wp_doesL (does_store h.mem h.env hop hz hp hcs hn hw) hK⟩
   ·cases hs
  ·cases hs
 | mks x z e b =>
  obtain ⟨t, tm, i, hop, rfl, hu, hi, hz, hsz, rfl⟩ := inv_mks ht
  simp only [stepL, guard', Option.bind_eq_some_iff] at hs
  obtain ⟨l, hl, hs⟩ := hs
  split at hs
  ·rename_i hc
   simp only [Option.some.injEq, Prod.mk.injEq] at hs
   obtain ⟨rfl, rfl⟩ := hs
   exact ⟨rfl, wp_doesL (does_mks h.mem h.env hop hu hi hz hsz hl hc.1 hc.2.1 hc.2.2.1) hK⟩
  ·cases hs
 | lit n esz z ps e =>
  obtain ⟨t, parts, i, hop, hu, hi, hz, hsz, rfl, rfl⟩ := inv_lit ht
  simp only [stepL, guard'] at hs
  split at hs
  ·rename_i hc
   simp only [Option.bind_eq_some_iff] at hs
   obtain ⟨cs, hcs, hs⟩ := hs
   split at hs
   ·rename_i hl
    simp only [Option.some.injEq, Prod.mk.injEq] at hs
    obtain ⟨rfl, rfl⟩ := hs
    exact ⟨rfl, wp_doesL (does_lit h.mem h.env hop hu hi hz hsz hc.1 hc.2.2 (by simpa [List.map_map, Function.comp_def] using hcs) hl) hK⟩
   ·cases hs
  ·cases hs
 | app x y e esz bytes =>
  obtain ⟨c, t, x', y', i, hop, hc, ha, hat, hu, hi, rfl, rfl, rfl, rfl, z, hz, hsz⟩ := inv_app ht
  have henv : st'.env = st.env := by
   simp only [stepL, guard', Option.bind_eq_some_iff] at hs
   obtain ⟨p, _, hs⟩ := hs
   split at hs
   ·split at hs
    ·simp only [Option.some.injEq, Prod.mk.injEq] at hs; rw [← hs.2]
    ·split at hs
     ·simp only [Option.some.injEq, Prod.mk.injEq] at hs; rw [← hs.2]
     ·cases hs
   ·simp only [Option.bind_eq_some_iff] at hs
    obtain ⟨blk, _, hs⟩ := hs
    split at hs
    ·simp only [Option.some.injEq, Prod.mk.injEq] at hs; rw [← hs.2]
    ·cases hs
   ·cases hs
  obtain ⟨v0, _, hr, ⟨i', hi', hiz⟩, _⟩ := zeroT_some hz
  rw [hi] at hi'
  injection hi' with hi'
  subst hi'
  have hzc : v0.cells.size = i.size := by rw [hsz, (hr w ι st.mem).1]; simp
  exact ⟨henv, wp_doesL (does_app h.mem h.env hop hc ha hat hu hi ⟨v0, hiz, hzc⟩ call hs) hK⟩
 | clr x z =>
  obtain ⟨c, x', t, e, hop, hc, ha, hat, hu, hz, rfl⟩ := inv_clr ht
  simp only [stepL] at hs
  split at hs
  ·rename_i hp
   simp only [Option.some.injEq, Prod.mk.injEq] at hs
   obtain ⟨rfl, rfl⟩ := hs
   have hv := ev_VR h.env x'
   rw [hp] at hv
   refine ⟨rfl, wp_does h ⟨undef, .c .undef, fun w' hw => ?_⟩ hK⟩
   simp [execOp, hop, resolve, hc, ha, hat, invoke, builtin, hv.nils, Builtin.clear_, run_underlying hu, undef]
  ·rename_i b off n tot hp
   simp only [Option.bind_eq_some_iff] at hs
   obtain ⟨blk, hl, hs⟩ := hs
   split at hs
   ·rename_i h0
    simp only [Option.some.injEq, Prod.mk.injEq] at hs
    obtain ⟨rfl, rfl⟩ := hs
    have hv := ev_VR h.env x'
    rw [hp] at hv
    obtain ⟨ad, cap, x1, _⟩ := hv.sl hl
    subst h0
    refine ⟨rfl, wp_does h ⟨undef, .c .undef, fun w' hw => ?_⟩ hK⟩
    simp [execOp, hop, resolve, hc, ha, hat, invoke, builtin, x1, Builtin.clear_, run_underlying hu, undef]
   ·rename_i h0
    simp only [Option.bind_eq_some_iff, Option.some.injEq, Prod.mk.injEq] at hs
    obtain ⟨st1, hw, rfl, rfl⟩ := hs
    have henv : st1.env = st.env := by
     unfold wrt guard' at hw
     simp only [Option.bind_eq_some_iff] at hw
     obtain ⟨blk, _, hw⟩ := hw
     split at hw
     ·injection hw with hw; subst hw; rfl
     ·cases hw
    exact ⟨henv, wp_doesL (does_clr h.mem h.env hop hc ha hat hu hz hp h0 hw) hK⟩
  ·cases hs
 | call f l =>
  obtain ⟨c, hop, hc, rfl⟩ := inv_call ht
  simp only [stepL, guard', Option.bind_eq_some_iff, Option.some.injEq, Prod.mk.injEq] at hs
  obtain ⟨r, hr, rfl, rfl⟩ := hs
  exact ⟨rfl, wp_call hC h hop hc rfl hr hK⟩
 | callv x l =>
  obtain ⟨c, t, hop, hc, rfl, rfl⟩ := inv_callv ht
  simp only [stepL, guard'] at hs
  split at hs
  ·rename_i f hp
   simp only [Option.bind_eq_some_iff, Option.some.injEq, Prod.mk.injEq] at hs
   obtain ⟨r, hr, rfl, rfl⟩ := hs
   have hv := h.env t
   have hp' : get st.env t = .c (.fn f) := hp
   rw [hp'] at hv
   exact ⟨rfl, wp_call hC h hop hc hv.fn hr hK⟩
  ·rename_i f ns hp
   simp only [Option.bind_eq_some_iff, Option.some.injEq, Prod.mk.injEq] at hs
   obtain ⟨r, hr, rfl, rfl⟩ := hs
   have hv := h.env t
   have hp' : get st.env t = .c (.clo f ns) := hp
   rw [hp'] at hv
   exact ⟨rfl, wp_callc hC h hop hc hv.clo hr hK⟩
  ·rename_i f b off tot hp
   simp only [Option.bind_eq_some_iff, Option.some.injEq, Prod.mk.injEq] at hs
   obtain ⟨r, hr, rfl, rfl⟩ := hs
   have hv := h.env t
   have hp' : get st.env t = .c (.clp f b off tot) := hp
   rw [hp'] at hv
   obtain ⟨rc, hv1, hv2⟩ := hv.clp
   exact ⟨rfl, wp_callp hC h hop hc hv2 hv1 hr hK⟩
  ·cases hs
 | _ => exact quiet hs
end
end Go.Proofs.YtfbeplbcaanimaaGreat
set_option linter.unusedVariables false
set_option linter.unusedSimpArgs false
namespace Go.Proofs.YtfbeplbcaanimaaGreat
section
variable {call : FuncId → List V → List Blk → Option Ret} {n0 n : Nat} {m m2 : List Blk} {env env2 : List (Nat × V)}
theorem layAll_congr : ∀ (ps : List (Nat × Nat × Opd)) (cs : List C), (∀ p ∈ ps, p.2.2.ev env = p.2.2.ev env2) → layAll env cs ps = layAll env2 cs ps
 | [], _, _ => rfl
 | p :: ps, cs, h => by
  simp only [layAll, h p (by simp)]
  congr 1
  funext new
  split
  ·exact layAll_congr ps _ fun q hq => h q (by simp [hq])
  ·rfl
theorem map_congr {l : List Opd} (h : ∀ x ∈ l, x.ev env = x.ev env2) : l.map (·.ev env) = l.map (·.ev env2) := List.map_congr_left h
theorem lo_congr {lo : Option Opd} (h : ∀ x ∈ lo.toList, x.ev env = x.ev env2) : lo' env lo = lo' env2 lo := by
 cases lo with
 | none => rfl
 | some x => simp only [lo', h x (by simp)]
theorem hi_congr {k : Nat} {lo : Option Opd} (h : ∀ x ∈ lo.toList, x.ev env = x.ev env2) : hi' env k lo = hi' env2 k lo := by
 cases lo with
 | none => rfl
 | some x => simp only [hi', h x (by simp)]
theorem stepQ_congr {i : I} (h : ∀ x ∈ i.opds, x.ev env = x.ev env2) : stepQ env m i = stepQ env2 m i := by
 cases i with
 | sla a k e lo hi =>
  simp only [I.opds, List.mem_cons, List.mem_append, forall_eq_or_imp] at h
  simp only [stepQ, h.1, lo_congr (fun x hx => h.2 x (.inl hx)), hi_congr (k := k) (fun x hx => h.2 x (.inr hx))]
 | sls a e lo hi =>
  simp only [I.opds, List.mem_cons, List.mem_append, forall_eq_or_imp] at h
  have h2 : ∀ k, hi' env k hi = hi' env2 k hi := fun k => hi_congr (fun x hx => h.2 x (.inr hx))
  simp only [stepQ, h.1, lo_congr (fun x hx => h.2 x (.inl hx)), h2]
 | bld z ps =>
  simp only [stepQ]
  rw [layAll_congr ps z fun p hp => h _ (List.mem_map.2 ⟨p, hp, rfl⟩)]
 | mkc f l =>
  have h' : l.map (·.ev env) = l.map (·.ev env2) := List.map_congr_left h
  simp only [stepQ, h']
 | _ => simp only [I.opds, List.mem_cons, List.not_mem_nil, or_false, forall_eq_or_imp, forall_eq, implies_true] at h <;> simp only [stepQ, h]
theorem src_congr {esz : Nat} {x : Opd} (h : x.ev env = x.ev env2) : src env m esz x = src env2 m esz x := by simp only [src, h]
def St.wenv (st : St) (env : List (Nat × V)) : St := { st with env := env }
def mapS (env : List (Nat × V)) (x : Option (V × St)) : Option (V × St) := x.map fun q => (q.1, q.2.wenv env)
theorem stepL_env {i : I} {st : St} (h : ∀ x ∈ i.opds, x.ev st.env = x.ev env2) : stepL call n0 (st.wenv env2) i = mapS env2 (stepL call n0 st i) := by
 cases i with
 | alloc z ty => rfl
 | box x ty =>
  simp only [I.opds, List.mem_cons, List.not_mem_nil, or_false, forall_eq] at h
  simp only [stepL, St.wenv, ← h, mapS]
  cases (x.ev st.env).cells? <;> rfl
 | store a x k =>
  simp only [I.opds, List.mem_cons, List.not_mem_nil, or_false, forall_eq_or_imp, forall_eq] at h
  simp only [stepL, St.wenv, ← h.1, ← h.2, mapS]
  split
  ·cases (x.ev st.env).cells? with
   | none => rfl
   | some cs =>
    simp only [Option.bind_some, guard', wrt]
    split
    ·rename_i b off tot _ _
     cases live st.mem b tot with
     | none => rfl
     | some blk =>
      simp only [Option.bind_some]
      split <;> rfl
    ·rfl
  ·rfl
 | mks k z ty bytes =>
  simp only [I.opds, List.mem_cons, List.not_mem_nil, or_false, forall_eq] at h
  simp only [stepL, St.wenv, ← h, mapS, guard']
  cases (k.ev st.env).int? with
  | none => rfl
  | some l =>
   simp only [Option.bind_some]
   split <;> rfl
 | lit k esz z ps ty =>
  have h' : layAll env2 (rep k z) (ps.map fun (i, x) => (i * esz, esz, x)) = layAll st.env (rep k z) (ps.map fun (i, x) => (i * esz, esz, x)) := by
   refine layAll_congr _ _ fun p hp => ?_
   obtain ⟨q, hq, rfl⟩ := List.mem_map.1 hp
   exact (h q.2 (List.mem_map.2 ⟨q, hq, rfl⟩)).symm
  simp only [stepL, St.wenv, h', mapS, guard']
  split
  ·cases layAll st.env (rep k z) (ps.map fun (i, x) => (i * esz, esz, x)) with
   | none => rfl
   | some cs =>
    simp only [Option.bind_some]
    split <;> rfl
  ·rfl
 | app s x ty esz bytes =>
  simp only [I.opds, List.mem_cons, List.not_mem_nil, or_false, forall_eq_or_imp, forall_eq] at h
  have h2 : src env2 st.mem esz x = src st.env st.mem esz x := (src_congr h.2).symm
  simp only [stepL, St.wenv, h2, ← h.1, mapS, guard']
  cases src st.env st.mem esz x with
  | none => rfl
  | some p =>
   simp only [Option.bind_some]
   split
   ·split
    ·rfl
    ·split <;> rfl
   ·rename_i b off len tot _
    cases live st.mem b tot with
    | none => rfl
    | some blk =>
     simp only [Option.bind_some]
     split <;> rfl
   ·rfl
 | clr x z =>
  simp only [I.opds, List.mem_cons, List.not_mem_nil, or_false, forall_eq] at h
  simp only [stepL, St.wenv, ← h, mapS]
  split
  ·rfl
  ·cases live st.mem _ _ with
   | none => rfl
   | some blk =>
    simp only [Option.bind_some]
    split
    ·rfl
    ·simp only [wrt, guard']
     cases live st.mem _ _ with
     | none => rfl
     | some blk =>
      simp only [Option.bind_some]
      split <;> rfl
  ·rfl
 | call f l =>
  have h' : l.map (·.ev env2) = l.map (·.ev st.env) := (map_congr h).symm
  simp only [stepL, St.wenv, h', mapS]
  cases call f (l.map (·.ev st.env)) st.mem <;> rfl
 | callv x l =>
  simp only [I.opds, List.mem_cons, forall_eq_or_imp] at h
  have h' : l.map (·.ev env2) = l.map (·.ev st.env) := (map_congr h.2).symm
  simp only [stepL, St.wenv, h', ← h.1, mapS]
  split
  ·cases call _ (l.map (·.ev st.env)) st.mem <;> rfl
  ·cases call _ (l.map (·.ev st.env) ++ _) st.mem <;> rfl
  ·cases call _ (l.map (·.ev st.env) ++ _) st.mem <;> rfl
  ·rfl
 | _ => simp only [stepL, St.wenv, mapS, ← stepQ_congr h] <;> cases stepQ st.env st.mem _ <;> rfl
def Looks (o : EOp) (env env2 : List (Nat × V)) : Prop := (∀ x ∈ o.op.i.opds, x.ev env = x.ev env2) ∧ ∀ g, o.op.gd = some g → get env g.1 = get env2 g.1
theorem nilApp_congr {i : I} (h : ∀ x ∈ i.opds, x.ev env = x.ev env2) : nilApp env i = nilApp env2 i := by
 cases i with
 | app s x ty e b =>
  simp only [I.opds, List.mem_cons, List.not_mem_nil, or_false, forall_eq_or_imp, forall_eq] at h
  simp only [nilApp, h.1, h.2]
 | _ => rfl
theorem foot_congr {i : I} {q : Nat} (h : ∀ x ∈ i.opds, x.ev env = x.ev env2) : foot env q i = foot env2 q i := by
 cases i with
 | sla a k e lo hi => simp only [I.opds, List.mem_cons, forall_eq_or_imp] at h; simp only [foot, h.1]
 | sls a e lo hi => simp only [I.opds, List.mem_cons, forall_eq_or_imp] at h; simp only [foot, h.1]
 | _ => first | rfl | (simp only [I.opds, List.mem_cons, List.not_mem_nil, or_false, forall_eq_or_imp, forall_eq] at h; simp only [foot, h])
theorem guard_map {α β : Type} {c : Prop} [Decidable c] {x : Option α} (f : α → β) : (guard' c x).map f = guard' c (x.map f) := by
 unfold guard'; split <;> rfl
theorem place_env {q : Nat} {st : St} {r : V × St} : place q (st.wenv env2) (r.1, r.2.wenv env2) = mapS env2 (place q st r) := by
 unfold place mapS
 show (match r.2.mem with | [blk] => _ | _ => _) = _
 cases r.2.mem with
 | nil => rfl
 | cons blk l =>
  cases l with
  | cons _ _ => rfl
  | nil =>
   show (match r.1 with | .c (.ptr _ o t) => _ | .c (.sl _ o l t) => _ | _ => _) = _
   cases r.1 with
   | c x => cases x <;> first | rfl | (show _ = Option.map _ (guard' _ _); rw [guard_map]; rfl)
   | agg l => rfl
   | tup l => rfl
theorem pureC_env {st : St} {args : List V} {r : Ret} : pureC (st.wenv env2) args r = mapS env2 (pureC st args r) := by
 simp only [pureC, mapS]
 split <;> rfl
theorem stepE_env {o : EOp} {st : St} (h : ∀ x ∈ o.op.i.opds, x.ev st.env = x.ev env2) : stepE call n0 n o (st.wenv env2) = mapS env2 (stepE call n0 n o st) := by
 unfold stepE
 split
 ·have := stepL_env (call := call) (n0 := n0) (i := o.op.i) (st := { st with mem := [] }) (env2 := env2) h
  have e : ({ st.wenv env2 with mem := [] } : St) = ({ st with mem := [] } : St).wenv env2 := rfl
  rw [e, this]
  cases stepL call n0 { st with mem := [] } o.op.i with
  | none => rfl
  | some r =>
   simp only [mapS, Option.map_some, Option.bind_some]
   exact place_env
 ·split
  ·split
   ·rename_i f l heq
    rw [heq] at h
    have h' : l.map (·.ev (st.wenv env2).env) = l.map (·.ev st.env) := (map_congr h).symm
    simp only [h']
    cases call f (l.map (·.ev st.env)) [] with
    | none => rfl
    | some r => simp only [Option.bind_some]; exact pureC_env
   ·rename_i x l heq
    rw [heq] at h
    simp only [I.opds, List.mem_cons, forall_eq_or_imp] at h
    have h' : l.map (·.ev (st.wenv env2).env) = l.map (·.ev st.env) := (map_congr h.2).symm
    have h1 : x.ev (st.wenv env2).env = x.ev st.env := h.1.symm
    simp only [h', h1]
    split
    ·rename_i f _
     cases call f (l.map (·.ev st.env)) [] with
     | none => rfl
     | some r => simp only [Option.bind_some]; exact pureC_env
    ·rfl
   ·rfl
  ·have h1 : nilApp (st.wenv env2).env o.op.i = nilApp st.env o.op.i := (nilApp_congr h).symm
   rw [h1]
   split
   ·rfl
   ·exact stepL_env h
theorem wantB_congr {gd : Option (Nat × Bool)} (h : ∀ g, gd = some g → get env g.1 = get env2 g.1) : wantB env gd = wantB env2 gd := by
 cases gd with
 | none => rfl
 | some g => obtain ⟨t, b⟩ := g; simp only [wantB, h (t, b) rfl]
theorem stepG_env {o : EOp} {st : St} (h : Looks o st.env env2) {v : V} {st1 : St} {F : Foot} (hs : stepG call n0 n o st = some (v, st1, F)) : stepG call n0 n o (st.wenv env2) = some (v, st1.wenv env2, F) := by
 unfold stepG at *
 have h1 : wantB (st.wenv env2).env o.op.gd = wantB st.env o.op.gd := (wantB_congr h.2).symm
 rw [h1]
 simp only [Option.bind_eq_some_iff] at hs ⊢
 obtain ⟨t, ht, hs⟩ := hs
 refine ⟨t, ht, ?_⟩
 cases t with
 | true =>
  simp only [if_true, Option.bind_eq_some_iff, Option.some.injEq, Prod.mk.injEq] at hs ⊢
  obtain ⟨r, hr, rfl, rfl, rfl⟩ := hs
  refine ⟨(r.1, r.2.wenv env2), by rw [stepE_env h.1, hr]; rfl, rfl, rfl, ?_⟩
  exact (foot_congr h.1).symm
 | false =>
  simp only [Bool.false_eq_true, if_false, Option.some.injEq, Prod.mk.injEq] at hs ⊢
  obtain ⟨rfl, rfl, rfl⟩ := hs
  exact ⟨rfl, rfl, rfl⟩
theorem stepE_keeps {o : EOp} {st st1 : St} {v : V} (hs : stepE call n0 n o st = some (v, st1)) : st1.env = st.env := by
 have := stepE_env (call := call) (n0 := n0) (n := n) (o := o) (st := st) (env2 := st.env) (fun _ _ => rfl)
 rw [show st.wenv st.env = st from rfl, hs] at this
 simp only [mapS, Option.map_some, Option.some.injEq, Prod.mk.injEq, true_and] at this
 rw [this]; rfl
theorem stepG_keeps {o : EOp} {st st1 : St} {v : V} {F : Foot} (hs : stepG call n0 n o st = some (v, st1, F)) : st1.env = st.env := by
 have := stepG_env (call := call) (n0 := n0) (n := n) (o := o) (st := st) (env2 := st.env) ⟨fun _ _ => rfl, fun _ _ => rfl⟩ hs
 rw [show st.wenv st.env = st from rfl, hs] at this
 simp only [Option.some.injEq, Prod.mk.injEq, true_and, and_true] at this
 rw [this]; rfl
end
end Go.Proofs.YtfbeplbcaanimaaGreat
set_option linter.unusedVariables false
set_option linter.unusedSimpArgs false
namespace Go.Proofs.YtfbeplbcaanimaaGreat
section
variable {call : FuncId → List V → List Blk → Option Ret} {n0 n : Nat} {m m2 : List Blk} {env env2 : List (Nat × V)}
inductive Dl where
 | no
 | st (b off : Nat) (cs : List C) (r w : Nat)
 | wh (p : Nat) (blk : Blk) (r w : Nat)
def Dl.mem : Dl → List Blk → List Blk
 | .no, m => m
 | .st b off cs _ _, m => match m[b]? with
  | some blk => m.set b { blk with cs := lay blk.cs off cs }
  | none => m
 | .wh p blk _ _, m => m.set p blk
def Dl.r : Dl → Nat
 | .no => 0
 | .st _ _ _ r _ => r
 | .wh _ _ r _ => r
def Dl.w : Dl → Nat
 | .no => 0
 | .st _ _ _ _ w => w
 | .wh _ _ _ w => w
def Dl.app (d : Dl) (st : St) : St := ⟨st.env, d.mem st.mem, mx st.esc d.r, mx st.wr d.w⟩
def shape (m : List Blk) (b : Nat) : Option (Nat × TypeId × Nat × Bool) := (m[b]?).map fun blk => (blk.cs.length, blk.ty, blk.esz, blk.own)
def cellAt (m : List Blk) (b j : Nat) : Option C := (m[b]?).bind fun blk => blk.cs[j]?
structure Agree (F : Foot) (m m2 : List Blk) : Prop where
 len : F.sw ≠ [] → m.length = m2.length
 sr : ∀ b ∈ F.sr, shape m b = shape m2 b
 cr : ∀ x ∈ F.cr, ∀ j, x.2.1 ≤ j → j < x.2.1 + x.2.2 → cellAt m x.1 j = cellAt m2 x.1 j
 sw : ∀ b ∈ F.sw, m[b]? = m2[b]?
def Dl.within (F : Foot) (m : List Blk) : Dl → Prop
 | .no => True
 | .st b off cs _ _ => (b, off, cs.length) ∈ F.cw ∧ b ∈ F.sr ∧ ∃ blk, m[b]? = some blk ∧ off + cs.length ≤ blk.cs.length
 | .wh p _ _ _ => p ∈ F.sw
theorem lay_get {cs new : List C} {off j : Nat} (h : off + new.length ≤ cs.length) : (lay cs off new)[j]? = if off ≤ j ∧ j < off + new.length then new[j - off]? else cs[j]? := by
 unfold lay
 rw [List.append_assoc]
 rcases Nat.lt_or_ge j off with h1 | h1
 ·rw [if_neg (by omega), List.getElem?_append_left (by simp; omega), List.getElem?_take, if_pos h1]
 ·rw [List.getElem?_append_right (by simp; omega)]
  have : (List.take off cs).length = off := by simp; omega
  rw [this]
  rcases Nat.lt_or_ge j (off + new.length) with h2 | h2
  ·rw [if_pos ⟨h1, h2⟩, List.getElem?_append_left (by omega)]
  ·rw [if_neg (by omega), List.getElem?_append_right (by omega), List.getElem?_drop]
   congr 1; omega
theorem lay_len {cs new : List C} {off : Nat} (h : off + new.length ≤ cs.length) : (lay cs off new).length = cs.length := by
 unfold lay; simp; omega
theorem lay_comm {cs a b : List C} {i j : Nat} (ha : i + a.length ≤ cs.length) (hb : j + b.length ≤ cs.length) (hd : i + a.length ≤ j ∨ j + b.length ≤ i) : lay (lay cs i a) j b = lay (lay cs j b) i a := by
 apply List.ext_getElem?
 intro k
 rw [lay_get (cs := lay cs i a) (by rw [lay_len ha]; exact hb), lay_get ha, lay_get (cs := lay cs j b) (by rw [lay_len hb]; exact ha), lay_get hb]
 by_cases h1 : i ≤ k ∧ k < i + a.length
 ·by_cases h2 : j ≤ k ∧ k < j + b.length
  ·omega
  ·rw [if_neg h2, if_pos h1, if_pos h1]
 ·by_cases h2 : j ≤ k ∧ k < j + b.length
  ·rw [if_pos h2, if_neg h1, if_pos h2]
  ·rw [if_neg h2, if_neg h1, if_neg h1, if_neg h2]
theorem live_shape {b tot : Nat} (h : shape m b = shape m2 b) {blk : Blk} (hl : live m b tot = some blk) : ∃ blk2, live m2 b tot = some blk2 ∧ m[b]? = some blk ∧ m2[b]? = some blk2 ∧ blk2.cs.length = blk.cs.length ∧ blk2.ty = blk.ty ∧ blk2.esz = blk.esz ∧ blk2.own = blk.own := by
 unfold live at hl
 simp only [Option.bind_eq_some_iff] at hl
 obtain ⟨blk', h1, hl⟩ := hl
 split at hl
 ·rename_i ht
  injection hl with hl
  subst hl
  unfold shape at h
  rw [h1] at h
  simp only [Option.map_some] at h
  cases h2 : m2[b]? with
  | none => rw [h2] at h; cases h
  | some blk2 =>
   rw [h2] at h
   simp only [Option.map_some, Option.some.injEq, Prod.mk.injEq] at h
   obtain ⟨e1, e2, e3, e4⟩ := h
   refine ⟨blk2, ?_, h1, rfl, e1.symm, e2.symm, e3.symm, e4.symm⟩
   unfold live
   rw [h2, Option.bind_some, if_pos (by omega)]
 ·cases hl
theorem take_agree {b off k : Nat} {blk blk2 : Blk} (h1 : m[b]? = some blk) (h2 : m2[b]? = some blk2) (hl : blk2.cs.length = blk.cs.length) (hc : ∀ j, off ≤ j → j < off + k → cellAt m b j = cellAt m2 b j) :
  (blk.cs.drop off).take k = (blk2.cs.drop off).take k := by
 apply List.ext_getElem?
 intro j
 rw [List.getElem?_take, List.getElem?_take]
 split
 ·rename_i hj
  rw [List.getElem?_drop, List.getElem?_drop]
  have := hc (off + j) (by omega) (by omega)
  simpa [cellAt, h1, h2] using this
 ·rfl
theorem stepQ_frame {i : I} {q : Nat} (ha : Agree (foot env q i) m m2) {v : V} (hs : stepQ env m i = some v) : stepQ env m2 i = some v := by
 cases i with
 | load1 a =>
  simp only [stepQ, foot] at *
  split at hs
  ·rename_i b off tot hp
   rw [hp] at ha
   simp only [Option.bind_eq_some_iff] at hs
   obtain ⟨blk, hl, c, hc, hs⟩ := hs
   obtain ⟨blk2, k1, k2, k3, k4, _⟩ := live_shape (ha.sr b (by simp [V.blk])) hl
   have := ha.cr (b, off, 1) (by simp [V.rng]) off (Nat.le_refl _) (by simp)
   simp only [cellAt, k2, k3, Option.bind_some, hc] at this
   simp only [k1, Option.bind_some, ← this]
   exact hs
  ·cases hs
 | loadN a k =>
  simp only [stepQ, foot, guard'] at *
  split at hs
  ·rename_i b off tot hp
   rw [hp] at ha
   simp only [Option.bind_eq_some_iff] at hs
   obtain ⟨blk, hl, hs⟩ := hs
   obtain ⟨blk2, k1, k2, k3, k4, _⟩ := live_shape (ha.sr b (by simp [V.blk])) hl
   have := take_agree (off := off) (k := k) k2 k3 k4 (ha.cr (b, off, k) (by simp [V.rng]))
   simp only [k1, Option.bind_some, k4, ← this]
   exact hs
  ·cases hs
 | fld a f =>
  simp only [stepQ, foot] at *
  split at hs
  ·rename_i b off tot hp
   rw [hp] at ha
   simp only [Option.bind_eq_some_iff] at hs
   obtain ⟨blk, hl, hs⟩ := hs
   obtain ⟨blk2, k1, _⟩ := live_shape (ha.sr b (by simp [V.blk])) hl
   simp only [k1, Option.bind_some]; exact hs
  ·cases hs
 | chk a =>
  simp only [stepQ, foot] at *
  split at hs
  ·rename_i b off tot hp
   rw [hp] at ha
   simp only [Option.bind_eq_some_iff] at hs
   obtain ⟨blk, hl, hs⟩ := hs
   obtain ⟨blk2, k1, _⟩ := live_shape (ha.sr b (by simp [V.blk])) hl
   simp only [k1, Option.bind_some]; exact hs
  ·cases hs
 | ixa a y l e =>
  simp only [stepQ, foot] at *
  split at hs
  ·rename_i b off tot _ _ hp hy
   rw [hp] at ha
   simp only [Option.bind_eq_some_iff] at hs
   obtain ⟨blk, hl, hs⟩ := hs
   obtain ⟨blk2, k1, _⟩ := live_shape (ha.sr b (by simp [V.blk])) hl
   simp only [k1, Option.bind_some]; exact hs
  ·cases hs
 | ixs a y e =>
  simp only [stepQ, foot] at *
  split at hs
  ·rename_i b off len tot _ _ hp hy
   rw [hp] at ha
   simp only [Option.bind_eq_some_iff] at hs
   obtain ⟨blk, hl, hs⟩ := hs
   obtain ⟨blk2, k1, _⟩ := live_shape (ha.sr b (by simp [V.blk])) hl
   simp only [k1, Option.bind_some]; exact hs
  ·cases hs
 | nil ne a =>
  simp only [stepQ, foot] at *
  split at hs
  ·exact hs
  ·rename_i b off len tot hp
   rw [hp] at ha
   simp only [Option.bind_eq_some_iff] at hs
   obtain ⟨blk, hl, hs⟩ := hs
   obtain ⟨blk2, k1, _⟩ := live_shape (ha.sr b (by simp [V.blk])) hl
   simp only [k1, Option.bind_some]; exact hs
  ·cases hs
 | len a =>
  simp only [stepQ, foot] at *
  split at hs
  ·exact hs
  ·rename_i b off len tot hp
   rw [hp] at ha
   simp only [Option.bind_eq_some_iff] at hs
   obtain ⟨blk, hl, hs⟩ := hs
   obtain ⟨blk2, k1, _⟩ := live_shape (ha.sr b (by simp [V.blk])) hl
   simp only [k1, Option.bind_some]; exact hs
  ·cases hs
 | sla a k e lo hi =>
  simp only [stepQ, foot, guard'] at *
  split at hs
  ·rename_i b off tot hp
   rw [hp] at ha
   simp only [Option.bind_eq_some_iff] at hs
   obtain ⟨blk, hl, hs⟩ := hs
   obtain ⟨blk2, k1, _, _, _, _, k5, _⟩ := live_shape (ha.sr b (by simp [V.blk])) hl
   simp only [k1, Option.bind_some, k5]; exact hs
  ·cases hs
 | sls a e lo hi =>
  simp only [stepQ, foot, guard'] at *
  split at hs
  ·rename_i b off len tot hp
   rw [hp] at ha
   simp only [Option.bind_eq_some_iff] at hs
   obtain ⟨blk, hl, hs⟩ := hs
   obtain ⟨blk2, k1, _, _, _, _, k5, _⟩ := live_shape (ha.sr b (by simp [V.blk])) hl
   simp only [k1, Option.bind_some, k5]; exact hs
  ·exact hs
  ·cases hs
 | _ => exact hs
theorem src_frame {esz : Nat} {x : Opd} (hs : ∀ b ∈ (x.ev env).blk, shape m b = shape m2 b) (hc : ∀ r ∈ (x.ev env).srng esz, ∀ j, r.2.1 ≤ j → j < r.2.1 + r.2.2 → cellAt m r.1 j = cellAt m2 r.1 j)
  {p : Nat × List C} (h : src env m esz x = some p) : src env m2 esz x = some p := by
 simp only [src, guard'] at *
 split at h
 ·exact h
 ·rename_i b off k tot hp
  rw [hp] at hs hc
  simp only [Option.bind_eq_some_iff] at h
  obtain ⟨blk, hl, h⟩ := h
  obtain ⟨blk2, k1, k2, k3, k4, _⟩ := live_shape (hs b (by simp [V.blk])) hl
  have := take_agree (off := off) (k := k * esz) k2 k3 k4 (hc (b, off, k * esz) (by simp [V.srng]))
  simp only [k1, Option.bind_some, k4, ← this]
  exact h
 ·cases h
theorem stepQ_state {i : I} {st st1 : St} {v : V} (h : (stepQ st.env st.mem i).bind (fun v => some (v, st)) = some (v, st1)) : st1 = st ∧ stepQ st.env st.mem i = some v := by
 simp only [Option.bind_eq_some_iff, Option.some.injEq, Prod.mk.injEq] at h
 obtain ⟨v', h1, rfl, rfl⟩ := h
 exact ⟨rfl, h1⟩
theorem Dl.no_app (st : St) : Dl.no.app st = st := by
 simp [Dl.app, Dl.mem, Dl.r, Dl.w, mx_eq]
def Frm (f : St → Option (V × St)) (F : Foot) (st : St) (v : V) (st1 : St) : Prop :=
 ∃ d : Dl, st1 = d.app st ∧ d.within F st.mem ∧ ∀ st2, st2.env = st.env → Agree F st.mem st2.mem → f st2 = some (v, d.app st2)
theorem frm_quiet {i : I} {q : Nat} {st st1 : St} {v : V} (h : (stepQ st.env st.mem i).bind (fun v => some (v, st)) = some (v, st1)) : Frm (fun st => (stepQ st.env st.mem i).bind (fun v => some (v, st))) (foot st.env q i) st v st1 := by
 obtain ⟨rfl, h1⟩ := stepQ_state h
 refine ⟨.no, (Dl.no_app _).symm, trivial, fun st2 he ha => ?_⟩
 rw [Dl.no_app]
 simp only [he, stepQ_frame ha h1, Option.bind_some]
theorem frm_place {o : EOp} {st st1 : St} {v : V} (hm : o.op.i.makes = true) (hs : stepE call n0 n o st = some (v, st1)) : Frm (stepE call n0 n o) (foot st.env (n + o.p) o.op.i) st v st1 := by
 have hf : (foot st.env (n + o.p) o.op.i) = ⟨[], [], [], [n + o.p]⟩ := by
  cases hi : o.op.i <;> rw [hi] at hm <;> first | (cases hm; done) | rfl
 rw [hf]
 unfold stepE at hs
 rw [if_pos hm] at hs
 simp only [Option.bind_eq_some_iff] at hs
 obtain ⟨r, hr, hs⟩ := hs
 have key : ∃ blk e, r.2.mem = [blk] ∧ r.2.esc = mx st.esc e ∧ ∀ st2 : St, st2.env = st.env → stepL call n0 { st2 with mem := [] } o.op.i = some (r.1, { st2 with mem := [blk], esc := mx st2.esc e }) := by
  cases hi : o.op.i with
  | alloc z ty =>
   rw [hi] at hr
   simp only [stepL, Option.some.injEq] at hr
   subst hr
   exact ⟨_, _, rfl, rfl, fun st2 he => rfl⟩
  | box x ty =>
   rw [hi] at hr
   simp only [stepL, Option.bind_eq_some_iff, Option.some.injEq] at hr
   obtain ⟨z, hz, rfl⟩ := hr
   refine ⟨_, _, rfl, rfl, fun st2 he => ?_⟩
   simp only [stepL, he, hz, Option.bind_some]; rfl
  | mks k z ty bytes =>
   rw [hi] at hr
   simp only [stepL, Option.bind_eq_some_iff, guard'] at hr
   obtain ⟨l, hl, hr⟩ := hr
   split at hr
   ·rename_i hc
    injection hr with hr
    subst hr
    refine ⟨_, _, rfl, rfl, fun st2 he => ?_⟩
    simp only [stepL, he, hl, Option.bind_some, guard', if_pos hc]; rfl
   ·cases hr
  | lit k esz z ps ty =>
   rw [hi] at hr
   simp only [stepL, guard'] at hr
   split at hr
   ·rename_i hc
    simp only [Option.bind_eq_some_iff] at hr
    obtain ⟨cs, hcs, hr⟩ := hr
    split at hr
    ·rename_i hc2
     injection hr with hr
     subst hr
     refine ⟨_, _, rfl, rfl, fun st2 he => ?_⟩
     simp only [stepL, he, hcs, Option.bind_some, guard', if_pos hc, if_pos hc2]; rfl
    ·cases hr
   ·cases hr
  | _ => rw [hi] at hm; cases hm
 obtain ⟨blk, e, k1, k2, k3⟩ := key
 have hdead : ∀ st2 : St, Agree ⟨[], [], [], [n + o.p]⟩ st.mem st2.mem → isDead st2.mem (n + o.p) = isDead st.mem (n + o.p) := fun st2 ha => by
  unfold isDead
  rw [ha.sw (n + o.p) (by simp)]
 simp only [place, k1, guard', k2] at hs
 split at hs
 ·rename_i _ hr1
  split at hs
  ·rename_i hd
   injection hs with hs
   injection hs with h1 h2
   subst h1; subst h2
   refine ⟨.wh (n + o.p) blk e 0, by simp [Dl.app, Dl.mem, Dl.r, Dl.w, mx_eq], by simp [Dl.within], fun st2 he ha => ?_⟩
   unfold stepE
   rw [if_pos hm, k3 st2 he, Option.bind_some]
   simp only [place, hr1, guard']
   rw [if_pos (by rw [hdead st2 ha, ← ha.len (by simp)]; exact hd)]
   simp [Dl.app, Dl.mem, Dl.r, Dl.w, mx_eq]
  ·cases hs
 ·rename_i _ hr1
  split at hs
  ·rename_i hd
   injection hs with hs
   injection hs with h1 h2
   subst h1; subst h2
   refine ⟨.wh (n + o.p) blk e 0, by simp [Dl.app, Dl.mem, Dl.r, Dl.w, mx_eq], by simp [Dl.within], fun st2 he ha => ?_⟩
   unfold stepE
   rw [if_pos hm, k3 st2 he, Option.bind_some]
   simp only [place, hr1, guard']
   rw [if_pos (by rw [hdead st2 ha, ← ha.len (by simp)]; exact hd)]
   simp [Dl.app, Dl.mem, Dl.r, Dl.w, mx_eq]
  ·cases hs
 ·cases hs
theorem frm_store {a x : Opd} {k q : Nat} {st st1 : St} {v : V} (hs : stepL call n0 st (.store a x k) = some (v, st1)) : Frm (fun st => stepL call n0 st (.store a x k)) (foot st.env q (.store a x k)) st v st1 := by
 simp only [stepL, guard', wrt] at hs
 split at hs
 ·rename_i b off tot hp
  simp only [Option.bind_eq_some_iff] at hs
  obtain ⟨cs, hcs, hs⟩ := hs
  split at hs
  ·rename_i hk
   simp only [Option.bind_eq_some_iff] at hs
   obtain ⟨st', ⟨blk, hl, hst⟩, hs⟩ := hs
   split at hst
   ·rename_i hc
    injection hst with hst; subst hst
    injection hs with hs
    injection hs with h1 h2
    subst h1; subst h2
    obtain ⟨_, _, g2, _⟩ := live_shape (m2 := st.mem) (rfl : shape st.mem b = shape st.mem b) hl
    refine ⟨.st b off cs (refsL cs) (n0 - b), by simp [Dl.app, Dl.mem, Dl.r, Dl.w, g2], ⟨by simp [foot, hp, V.rng, hk], by simp [foot, hp, V.blk], blk, g2, hc.2⟩, fun st2 he ha => ?_⟩
    obtain ⟨blk2, k1, _, k3, k4, k5, k6, k7⟩ := live_shape (ha.sr b (by simp [foot, hp, V.blk])) hl
    simp only [stepL, he, hp, hcs, Option.bind_some, guard', if_pos hk, wrt, k1]
    rw [if_pos (by rw [k7, k4]; exact hc)]
    simp [Dl.app, Dl.mem, Dl.r, Dl.w, k3, he]
   ·cases hst
  ·cases hs
 ·cases hs
theorem frm_app {s x : Opd} {ty : TypeId} {esz bytes q : Nat} {st st1 : St} {v : V} (hn : nilApp st.env (.app s x ty esz bytes) = false) (hs : stepL call n0 st (.app s x ty esz bytes) = some (v, st1)) : Frm (fun st => stepL call n0 st (.app s x ty esz bytes)) (foot st.env q (.app s x ty esz bytes)) st v st1 := by
 simp only [stepL, guard', Option.bind_eq_some_iff] at hs
 obtain ⟨p, hp, hs⟩ := hs
 have hsrc : ∀ st2 : St, st2.env = st.env → Agree (foot st.env q (.app s x ty esz bytes)) st.mem st2.mem → src st2.env st2.mem esz x = some p := fun st2 he ha => by
  rw [he]
  exact src_frame (fun b hb => ha.sr b (by simp [foot, hb])) (fun r hr => ha.cr r (by simpa [foot] using hr)) hp
 split at hs
 ·rename_i hsv
  have hp0 : p.1 = 0 := by
   simp only [nilApp, hsv] at hn
   unfold src at hp
   split at hp
   ·injection hp with hp; rw [← hp]
   ·rename_i b off k tot hx
    rw [hx] at hn
    cases k with
    | zero =>
     simp only [Option.bind_eq_some_iff, guard'] at hp
     obtain ⟨_, _, hp⟩ := hp
     split at hp
     ·injection hp with hp; rw [← hp]
     ·cases hp
    | succ k => cases hn
   ·cases hp
  rw [if_pos hp0] at hs
  injection hs with hs
  injection hs with h1 h2
  subst h1; subst h2
  refine ⟨.no, (Dl.no_app _).symm, trivial, fun st2 he ha => ?_⟩
  rw [Dl.no_app]
  have h3 := hsrc st2 he ha
  rw [he] at h3
  simp only [stepL, he, h3, Option.bind_some, hsv, if_pos hp0]
 ·rename_i b off len tot hsv
  simp only [Option.bind_eq_some_iff] at hs
  obtain ⟨blk, hl, hs⟩ := hs
  split at hs
  ·rename_i hc
   injection hs with hs
   injection hs with h1 h2
   subst h1; subst h2
   refine ⟨.wh b { blk with cs := blk.cs ++ p.2 } (refsL p.2) (n0 - b), by simp [Dl.app, Dl.mem, Dl.r, Dl.w], by simp [Dl.within, foot, hsv, V.blk], fun st2 he ha => ?_⟩
   have h2 := ha.sw b (by simp [foot, hsv, V.blk])
   have hl2 : live st2.mem b tot = some blk := by unfold live at *; rw [← h2]; exact hl
   have h3 := hsrc st2 he ha
   rw [he] at h3
   simp only [stepL, he, h3, Option.bind_some, hsv, hl2, guard', if_pos hc]
   simp [Dl.app, Dl.mem, Dl.r, Dl.w, he]
  ·cases hs
 ·cases hs
theorem stepE_frm {o : EOp} {st st1 : St} {v : V} (hc : o.op.i.cls = 1 ∨ o.op.i.cls = 2) (hs : stepE call n0 n o st = some (v, st1)) : Frm (stepE call n0 n o) (foot st.env (n + o.p) o.op.i) st v st1 := by
 cases hm : o.op.i.makes with
 | true => exact frm_place hm hs
 | false =>
  have hml : o.ml = false := by
   cases hml : o.ml with
   | false => rfl
   | true =>
    exfalso
    unfold stepE at hs
    simp only [hm, hml, Bool.false_eq_true, if_false, if_true] at hs
    split at hs
    ·rename_i hi; rw [hi] at hc; simp [I.cls] at hc
    ·rename_i hi; rw [hi] at hc; simp [I.cls] at hc
    ·cases hs
  have hE : ∀ st2, stepE call n0 n o st2 = if nilApp st2.env o.op.i then none else stepL call n0 st2 o.op.i := fun st2 => by unfold stepE; simp [hm, hml]
  have lift : nilApp st.env o.op.i = false → Frm (fun st => stepL call n0 st o.op.i) (foot st.env (n + o.p) o.op.i) st v st1 → Frm (stepE call n0 n o) (foot st.env (n + o.p) o.op.i) st v st1 := by
   rintro hn ⟨d, d1, d2, d3⟩
   refine ⟨d, d1, d2, fun st2 he ha => ?_⟩
   rw [hE, he, hn]
   exact d3 st2 he ha
  rw [hE] at hs
  cases hn : nilApp st.env o.op.i with
  | true => rw [hn] at hs; cases hs
  | false =>
   rw [hn] at hs
   refine lift hn ?_
   simp only [Bool.false_eq_true, if_false] at hs
   cases hi : o.op.i with
   | store a x k => rw [hi] at hs; exact frm_store hs
   | app s x ty esz bytes => rw [hi] at hs hn; exact frm_app hn hs
   | alloc z ty => rw [hi] at hm; cases hm
   | box z ty => rw [hi] at hm; cases hm
   | mks _ _ _ _ => rw [hi] at hm; cases hm
   | lit _ _ _ _ _ => rw [hi] at hm; cases hm
   | call f l => rw [hi] at hc; simp [I.cls] at hc
   | callv f l => rw [hi] at hc; simp [I.cls] at hc
   | clr x z => rw [hi] at hc; simp [I.cls] at hc
   | _ => rw [hi] at hs; exact frm_quiet hs
theorem stepE_nul {o : EOp} {st st1 : St} {v : V} (hc : o.cls = 0) (hs : stepE call n0 n o st = some (v, st1)) : st1 = st ∧ ∀ st2, st2.env = st.env → stepE call n0 n o st2 = some (v, st2) := by
 have hm : o.op.i.makes = false := by
  cases hi : o.op.i <;> first | rfl | (unfold EOp.cls at hc; rw [hi] at hc; simp [I.cls] at hc)
 cases hml : o.ml with
 | true =>
  have hE : ∀ st2, stepE call n0 n o st2 = match o.op.i with
   | .call f args => (call f (args.map (·.ev st2.env)) []).bind (pureC st2 (args.map (·.ev st2.env)))
   | .callv x args => match x.ev st2.env with
    | .c (.fn f) => (call f (args.map (·.ev st2.env)) []).bind (pureC st2 (args.map (·.ev st2.env)))
    | _ => none
   | _ => none := fun st2 => by unfold stepE; simp only [hm, hml, Bool.false_eq_true, if_false, if_true]; rfl
  have pure : ∀ (args : List V) (r : Ret), pureC st args r = some (v, st1) → st1 = st ∧ ∀ st2, pureC st2 args r = some (v, st2) := by
   intro args r h
   unfold pureC at h ⊢
   split at h
   ·rename_i hq
    injection h with h
    injection h with h1 h2
    exact ⟨h2.symm, fun st2 => by rw [if_pos hq, h1]⟩
   ·cases h
  rw [hE] at hs
  split at hs
  ·rename_i f l hi
   simp only [Option.bind_eq_some_iff] at hs
   obtain ⟨r, hr, hs⟩ := hs
   obtain ⟨p1, p2⟩ := pure _ _ hs
   refine ⟨p1, fun st2 he => ?_⟩
   rw [hE, hi]
   simp only [he, hr, Option.bind_some, p2 st2]
  ·rename_i x l hi
   split at hs
   ·rename_i f hf
    simp only [Option.bind_eq_some_iff] at hs
    obtain ⟨r, hr, hs⟩ := hs
    obtain ⟨p1, p2⟩ := pure _ _ hs
    refine ⟨p1, fun st2 he => ?_⟩
    rw [hE, hi]
    simp only [he, hf, hr, Option.bind_some, p2 st2]
   ·cases hs
  ·cases hs
 | false =>
  have hc' : o.op.i.cls = 0 := by unfold EOp.cls at hc; simpa [hml] using hc
  have hn : ∀ env, nilApp env o.op.i = false := fun env => by
   cases hi : o.op.i <;> first | rfl | (rw [hi] at hc'; cases hc')
  have hE : ∀ st2, stepE call n0 n o st2 = stepL call n0 st2 o.op.i := fun st2 => by unfold stepE; simp [hm, hml, hn]
  rw [hE] at hs
  have hL : ∀ st2, stepL call n0 st2 o.op.i = (stepQ st2.env st2.mem o.op.i).bind fun v => some (v, st2) := fun st2 => by
   cases hi : o.op.i <;> first | rfl | (rw [hi] at hc'; cases hc')
  have hQ : ∀ env (m m2 : List Blk), stepQ env m o.op.i = stepQ env m2 o.op.i := fun env m m2 => by
   cases hi : o.op.i <;> first | rfl | (rw [hi] at hc'; cases hc')
  rw [hL] at hs
  obtain ⟨rfl, h1⟩ := stepQ_state hs
  exact ⟨rfl, fun st2 he => by rw [hE, hL, he, hQ st1.env st2.mem st1.mem, h1]; rfl⟩
end
end Go.Proofs.YtfbeplbcaanimaaGreat
set_option linter.unusedVariables false
set_option linter.unusedSimpArgs false
namespace Go.Proofs.YtfbeplbcaanimaaGreat
section
variable {call : FuncId → List V → List Blk → Option Ret} {n0 n : Nat} {m m2 : List Blk} {env env2 : List (Nat × V)} {F G : Foot}
structure Foot.ok (F : Foot) : Prop where
 cr : ∀ x ∈ F.cr, x.1 ∈ F.sr
 cw : ∀ x ∈ F.cw, x.1 ∈ F.sr
theorem rng_blk {v : V} {k : Nat} : ∀ x ∈ v.rng k, x.1 ∈ v.blk := by
 intro x hx
 unfold V.rng at hx
 split at hx
 ·simp at hx; subst hx; simp [V.blk]
 ·cases hx
theorem srng_blk {v : V} {k : Nat} : ∀ x ∈ v.srng k, x.1 ∈ v.blk := by
 intro x hx
 unfold V.srng at hx
 split at hx
 ·simp at hx; subst hx; simp [V.blk]
 ·cases hx
theorem foot_ok {i : I} {q : Nat} : (foot env q i).ok := by
 cases i <;> refine ⟨?_, ?_⟩ <;> simp only [foot] <;> intro x hx <;> first | (cases hx; done) | exact rng_blk x hx | exact List.mem_append_right _ (srng_blk x hx)
structure Fits (F G : Foot) : Prop where
 ss : ∀ b ∈ F.sw, ∀ c ∈ G.sr, b ≠ c
 sw : ∀ b ∈ F.sw, ∀ c ∈ G.sw, b ≠ c
 rs : ∀ b ∈ G.sw, ∀ c ∈ F.sr, b ≠ c
 ww : ∀ x ∈ F.cw, ∀ y ∈ G.cw, far x y = true
 wr : ∀ x ∈ F.cw, ∀ y ∈ G.cr, far x y = true
 rw : ∀ x ∈ G.cw, ∀ y ∈ F.cr, far x y = true
theorem fits_spec (h : F.fits G = true) : Fits F G := by
 unfold Foot.fits at h
 simp only [Bool.and_eq_true, List.all_eq_true, decide_eq_true_eq] at h
 obtain ⟨⟨⟨h1, h2⟩, h3⟩, h4⟩ := h
 exact ⟨fun b hb => (h1 b hb).1, fun b hb => (h1 b hb).2, h2, fun x hx => (h3 x hx).1, fun x hx => (h3 x hx).2, h4⟩
theorem far_symm {x y : Nat × Nat × Nat} (h : far x y = true) : far y x = true := by
 unfold far at *
 simp only [decide_eq_true_eq] at *
 rcases h with h | h | h
 ·exact .inl (Ne.symm h)
 ·exact .inr (.inr h)
 ·exact .inr (.inl h)
theorem Fits.symm (h : Fits F G) : Fits G F := ⟨h.rs, fun b hb c hc => Ne.symm (h.sw c hc b hb), h.ss, fun x hx y hy => far_symm (h.ww y hy x hx), h.rw, h.wr⟩
theorem Agree.symm (h : Agree F m m2) : Agree F m2 m := ⟨fun hs => (h.len hs).symm, fun b hb => (h.sr b hb).symm, fun x hx j h1 h2 => (h.cr x hx j h1 h2).symm, fun b hb => (h.sw b hb).symm⟩
theorem Dl.st_mem {b off : Nat} {cs : List C} {r w : Nat} {blk : Blk} (h : m[b]? = some blk) : (Dl.st b off cs r w).mem m = m.set b { blk with cs := lay blk.cs off cs } := by simp [Dl.mem, h]
theorem lt_of_get {b : Nat} {blk : Blk} (h : m[b]? = some blk) : b < m.length := (List.getElem?_eq_some_iff.1 h).1
theorem agree_after (hG : G.ok) {d : Dl} (hd : d.within F m) (hf : Fits F G) : Agree G m (d.mem m) := by
 cases d with
 | no => exact ⟨fun _ => rfl, fun _ _ => rfl, fun _ _ _ _ _ => rfl, fun _ _ => rfl⟩
 | st b off cs r w =>
  obtain ⟨h1, h2, blk, h3, h4⟩ := hd
  rw [Dl.st_mem h3]
  have hlt := lt_of_get h3
  refine ⟨by simp, fun c hc => ?_, fun x hx j j1 j2 => ?_, fun c hc => ?_⟩
  ·unfold shape
   by_cases e : b = c
   ·subst e
    rw [h3, List.getElem?_set_self hlt]
    simp [lay_len h4]
   ·rw [List.getElem?_set_ne e]
  ·unfold cellAt
   by_cases e : b = x.1
   ·have hfar := hf.wr _ h1 x hx
    unfold far at hfar
    simp only [decide_eq_true_eq] at hfar
    rw [← e, h3, List.getElem?_set_self hlt]
    simp only [Option.bind_some]
    rw [lay_get h4, if_neg]
    intro hc
    rcases hfar with hq | hq | hq
    ·exact hq e
    ·omega
    ·omega
   ·rw [List.getElem?_set_ne e]
  ·rw [List.getElem?_set_ne (Ne.symm (hf.rs c hc b h2))]
 | wh p blk r w =>
  have hp : p ∈ F.sw := hd
  refine ⟨by simp [Dl.mem], fun c hc => ?_, fun x hx j j1 j2 => ?_, fun c hc => ?_⟩
  ·unfold shape
   simp only [Dl.mem]
   rw [List.getElem?_set_ne (hf.ss p hp c hc)]
  ·unfold cellAt
   simp only [Dl.mem]
   rw [List.getElem?_set_ne (hf.ss p hp x.1 (hG.cr x hx))]
  ·simp only [Dl.mem]
   rw [List.getElem?_set_ne (hf.sw p hp c hc)]
theorem within_agree {d : Dl} (hd : d.within F m) (ha : Agree F m m2) : d.within F m2 := by
 cases d with
 | no => trivial
 | st b off cs r w =>
  obtain ⟨h1, h2, blk, h3, h4⟩ := hd
  have := ha.sr b h2
  unfold shape at this
  rw [h3] at this
  cases h5 : m2[b]? with
  | none => rw [h5] at this; cases this
  | some blk2 =>
   rw [h5] at this
   simp only [Option.map_some, Option.some.injEq, Prod.mk.injEq] at this
   exact ⟨h1, h2, blk2, h5, by omega⟩
 | wh p blk r w => exact hd
theorem commute_mem {d e : Dl} (hd : d.within F m) (he : e.within G m) (hf : Fits F G) : e.mem (d.mem m) = d.mem (e.mem m) := by
 cases d with
 | no => rfl
 | st b off cs r w =>
  obtain ⟨h1, h2, blk, h3, h4⟩ := hd
  cases e with
  | no => rfl
  | st b' off' cs' r' w' =>
   obtain ⟨g1, g2, blk', g3, g4⟩ := he
   rw [Dl.st_mem h3, Dl.st_mem g3]
   by_cases eq : b = b'
   ·subst eq
    rw [h3] at g3
    injection g3 with g3
    subst g3
    have hlt := lt_of_get h3
    rw [Dl.st_mem (List.getElem?_set_self hlt), Dl.st_mem (List.getElem?_set_self hlt), List.set_set, List.set_set]
    have hfar := hf.ww _ h1 _ g1
    unfold far at hfar
    simp only [decide_eq_true_eq] at hfar
    rw [lay_comm h4 g4 (by rcases hfar with hq | hq | hq; exact absurd rfl hq; exact .inl hq; exact .inr hq)]
   ·rw [Dl.st_mem (by rw [List.getElem?_set_ne eq]; exact g3), Dl.st_mem (by rw [List.getElem?_set_ne (Ne.symm eq)]; exact h3), List.set_comm _ _ eq]
  | wh p blk' r' w' =>
   have hp : p ∈ G.sw := he
   have hne : p ≠ b := hf.rs p hp b h2
   simp only [Dl.mem, h3]
   rw [List.getElem?_set_ne hne, h3]
   exact List.set_comm _ _ (Ne.symm hne)
 | wh p blk r w =>
  have hp : p ∈ F.sw := hd
  cases e with
  | no => rfl
  | st b' off' cs' r' w' =>
   obtain ⟨g1, g2, blk', g3, g4⟩ := he
   have hne : p ≠ b' := hf.ss p hp b' g2
   simp only [Dl.mem, g3]
   rw [List.getElem?_set_ne hne, g3]
   exact List.set_comm _ _ hne
  | wh p' blk' r' w' =>
   have hp' : p' ∈ G.sw := he
   exact List.set_comm _ _ (hf.sw p hp p' hp')
structure Eqv (a b : St) : Prop where
 mem : a.mem = b.mem
 esc : a.esc = b.esc
 wr : a.wr = b.wr
 env : ∀ t, get a.env t = get b.env t
theorem Eqv.refl (a : St) : Eqv a a := ⟨rfl, rfl, rfl, fun _ => rfl⟩
theorem Eqv.trans {a b c : St} (h : Eqv a b) (k : Eqv b c) : Eqv a c := ⟨h.mem.trans k.mem, h.esc.trans k.esc, h.wr.trans k.wr, fun t => (h.env t).trans (k.env t)⟩
theorem Eqv.symm {a b : St} (h : Eqv a b) : Eqv b a := ⟨h.mem.symm, h.esc.symm, h.wr.symm, fun t => (h.env t).symm⟩
theorem Eqv.wenv {a b : St} (h : Eqv a b) : b = a.wenv b.env := by
 cases a; cases b
 obtain ⟨rfl, rfl, rfl, _⟩ := h
 rfl
theorem looks_get {o : EOp} (h : ∀ t, get env t = get env2 t) : Looks o env env2 :=
 ⟨fun x _ => by cases x with | t i => exact h i | k v => rfl, fun g _ => h g.1⟩
theorem put_env {dst : Option Nat} {v : V} {st : St} : put dst v st = st.wenv (put dst v st).env := by cases dst <;> rfl
theorem get_put {dst : Option Nat} {v : V} {st : St} (t : Nat) : get (put dst v st).env t = if dst = some t then v else get st.env t := by
 cases dst with
 | none => simp [put]
 | some d => simp only [put, get, Option.some.injEq]
theorem looks_put {o : EOp} {dst : Option Nat} {v : V} {st : St} (h : ∀ d, dst = some d → d ∉ o.op.looks) : Looks o st.env (put dst v st).env := by
 refine ⟨fun x hx => ?_, fun g hg => ?_⟩
 ·cases x with
  | k v => rfl
  | t i =>
   show get st.env i = get (put dst v st).env i
   rw [get_put]
   split
   ·rename_i e
    have hm : i ∈ o.op.looks := by unfold IOp.looks; exact List.mem_append_left _ (List.mem_filterMap.2 ⟨Opd.t i, hx, rfl⟩)
    exact absurd hm (h i e)
   ·rfl
 ·rw [get_put]
  split
  ·rename_i e
   have hm : g.1 ∈ o.op.looks := by unfold IOp.looks; exact List.mem_append_right _ (by rw [hg]; simp)
   exact absurd hm (h g.1 e)
  ·rfl
theorem Looks.symm {o : EOp} (h : Looks o env env2) : Looks o env2 env := ⟨fun x hx => (h.1 x hx).symm, fun g hg => (h.2 g hg).symm⟩
theorem apart_spec {x y : IOp} (h : apartI x y = true) : (∀ d, x.dst = some d → d ∉ y.looks) ∧ (∀ d, x.dst = some d → y.dst ≠ some d) ∧ (∀ d, y.dst = some d → d ∉ x.looks) := by
 unfold apartI at h
 simp only [Bool.and_eq_true] at h
 refine ⟨fun d hd => ?_, fun d hd => ?_, fun d hd => ?_⟩ <;> rw [hd] at h <;> simp at h
 ·exact h.1.1
 ·exact h.1.2
 ·exact h.2
theorem stepG_nul {o : EOp} {st st1 : St} {v : V} (hc : o.cls = 0) (hs : stepG call n0 n o st = some (v, st1, F)) : st1 = st ∧ ∀ st2, st2.env = st.env → stepG call n0 n o st2 = some (v, st2, F) := by
 unfold stepG at *
 simp only [Option.bind_eq_some_iff] at hs
 obtain ⟨t, ht, hs⟩ := hs
 cases t with
 | true =>
  simp only [if_true, Option.bind_eq_some_iff, Option.some.injEq, Prod.mk.injEq] at hs
  obtain ⟨r, hr, rfl, rfl, rfl⟩ := hs
  obtain ⟨h1, h2⟩ := stepE_nul hc hr
  exact ⟨h1, fun st2 he => by rw [he, ht]; simp [h2 st2 he]⟩
 | false =>
  simp only [Bool.false_eq_true, if_false, Option.some.injEq, Prod.mk.injEq] at hs
  obtain ⟨rfl, rfl, rfl⟩ := hs
  exact ⟨rfl, fun st2 he => by rw [he, ht]; simp⟩
theorem stepG_frm {o : EOp} {st st1 : St} {v : V} (hc : o.op.i.cls = 1 ∨ o.op.i.cls = 2) (hs : stepG call n0 n o st = some (v, st1, F)) : F.ok ∧ (o.op.i.cls = 1 → F.cw = [] ∧ F.sw = []) ∧
  ∃ d : Dl, st1 = d.app st ∧ d.within F st.mem ∧ ∀ st2, st2.env = st.env → Agree F st.mem st2.mem → stepG call n0 n o st2 = some (v, d.app st2, F) := by
 unfold stepG at *
 simp only [Option.bind_eq_some_iff] at hs
 obtain ⟨t, ht, hs⟩ := hs
 cases t with
 | true =>
  simp only [if_true, Option.bind_eq_some_iff, Option.some.injEq, Prod.mk.injEq] at hs
  obtain ⟨r, hr, rfl, rfl, rfl⟩ := hs
  obtain ⟨d, h1, h2, h3⟩ := stepE_frm hc hr
  refine ⟨foot_ok, fun h1 => ?_, d, h1, h2, fun st2 he ha => by rw [he, ht]; simp [h3 st2 he ha]⟩
  cases hi : o.op.i <;> rw [hi] at h1 <;> first | (cases h1; done) | exact ⟨rfl, rfl⟩
 | false =>
  simp only [Bool.false_eq_true, if_false, Option.some.injEq, Prod.mk.injEq] at hs
  obtain ⟨rfl, rfl, rfl⟩ := hs
  exact ⟨⟨by simp, by simp⟩, fun _ => ⟨rfl, rfl⟩, .no, (Dl.no_app _).symm, trivial, fun st2 he ha => by rw [he, ht, Dl.no_app]; simp⟩
theorem cls_cases {o : EOp} (h : o.cls ≠ 0) (h3 : o.cls ≠ 3) : o.op.i.cls = 1 ∨ o.op.i.cls = 2 := by
 unfold EOp.cls at h h3
 split at h
 ·exact absurd rfl h
 ·rename_i hc
  rw [if_neg hc] at h3
  cases hi : o.op.i <;> rw [hi] at h h3 <;> simp [I.cls] at h h3 ⊢
theorem cls_one {o : EOp} (h : o.cls = 1) : o.op.i.cls = 1 := by
 unfold EOp.cls at h
 split at h
 ·cases h
 ·exact h
theorem chk_cls {o : EOp} (h : chkI o.op.i o.ml o.un = true) : o.cls = 3 := by
 unfold chkI at h
 split at h
 ·rename_i h1 h2 h3
  unfold EOp.cls
  rw [h1, h2]
  rfl
 ·cases h
theorem agree_same (hok : F.ok) (hw : F.sw = []) {m m2 : List Blk} (hs : ∀ b ∈ F.sr, m2[b]? = m[b]?) : Agree F m m2 := by
 refine ⟨fun h => absurd hw h, fun b hb => ?_, fun x hx j _ _ => ?_, fun b hb => ?_⟩
 ·unfold shape; rw [hs b hb]
 ·unfold cellAt; rw [hs x.1 (hok.cr x hx)]
 ·rw [hw] at hb; cases hb
theorem recI_ne {o : EOp} {m m2 : List Blk} (h : o.cls ≠ 3) : recI o.op.i o.ml m m2 F = F := by
 unfold recI
 rw [if_neg]
 rintro ⟨h1, h2⟩
 apply h
 unfold EOp.cls
 rw [if_neg (by simp [h2])]
 exact h1
theorem recI_call {o : EOp} {m m2 : List Blk} (h : o.cls = 3) : recI o.op.i o.ml m m2 F = callF m m2 := by
 unfold EOp.cls at h
 unfold recI
 split at h
 ·cases h
 ·rename_i hn
  refine if_pos ⟨h, ?_⟩
  cases hm : o.ml with
  | false => rfl
  | true => exact absurd ⟨hm, h⟩ hn
theorem chg_eq {m m2 : List Blk} {b : Nat} (h : b ∉ chg m m2) : m2[b]? = m[b]? := by
 apply Classical.byContradiction
 intro hn
 apply h
 unfold chg
 refine List.mem_filter.2 ⟨List.mem_range.2 ?_, by simpa using hn⟩
 rw [mx_eq]
 rcases Nat.lt_or_ge b (max m.length m2.length) with h1 | h1
 ·exact h1
 ·exfalso
  apply hn
  rw [List.getElem?_eq_none (by omega), List.getElem?_eq_none (by omega)]
theorem callF_sr {m m2 : List Blk} (h : (callF m m2).fits F = true) : ∀ b ∈ F.sr, m2[b]? = m[b]? := by
 intro b hb
 apply chg_eq
 intro hc
 exact (fits_spec h).ss b hc b hb rfl
theorem swap2 {a i : EOp} {st sa s2 : St} {va vi : V} {Fa Fi : Foot} (hp : pairE a i = true) (hf : i.un.contains a.ix = true → (recI a.op.i a.ml st.mem sa.mem Fa).fits Fi = true) (hsm : chkI i.op.i i.ml i.un = true → i.un.contains a.ix = true → ∀ b ∈ (recI a.op.i a.ml st.mem sa.mem Fa).sr, s2.mem[b]? = sa.mem[b]?)
  (h1 : stepG call n0 n a st = some (va, sa, Fa)) (h2 : stepG call n0 n i (put a.op.dst va sa) = some (vi, s2, Fi)) :
  ∃ si s3, stepG call n0 n i st = some (vi, si, Fi) ∧ stepG call n0 n a (put i.op.dst vi si) = some (va, s3, Fa) ∧ Eqv (put i.op.dst vi s2) (put a.op.dst va s3) ∧ (i.cls = 3 → sa.mem = st.mem ∧ si.mem = s2.mem) ∧ (a.cls = 3 → si.mem = st.mem ∧ s3.mem = sa.mem) := by
 unfold pairE at hp
 simp only [Bool.and_eq_true] at hp
 obtain ⟨⟨hap, _⟩, hcls⟩ := hp
 obtain ⟨a1, a2, a3⟩ := apart_spec hap
 have ka := stepG_keeps h1
 have ki := stepG_keeps h2
 have h2' : stepG call n0 n i sa = some (vi, s2.wenv sa.env, Fi) := by
  have hl : Looks i (put a.op.dst va sa).env sa.env := (looks_put a1).symm
  have := stepG_env hl h2
  have e : (put a.op.dst va sa).wenv sa.env = sa := by rw [put_env]; rfl
  rwa [e] at this
 have fin : ∀ (si s3 : St), si.env = st.env → stepG call n0 n i st = some (vi, si, Fi) → stepG call n0 n a si = some (va, s3, Fa) → s2.mem = s3.mem → s2.esc = s3.esc → s2.wr = s3.wr → (i.cls = 3 → sa.mem = st.mem ∧ si.mem = s2.mem) → (a.cls = 3 → si.mem = st.mem ∧ s3.mem = sa.mem) → ∃ si s3, stepG call n0 n i st = some (vi, si, Fi) ∧ stepG call n0 n a (put i.op.dst vi si) = some (va, s3, Fa) ∧ Eqv (put i.op.dst vi s2) (put a.op.dst va s3) ∧ (i.cls = 3 → sa.mem = st.mem ∧ si.mem = s2.mem) ∧ (a.cls = 3 → si.mem = st.mem ∧ s3.mem = sa.mem) := by
  intro si s3 es q1 q2 e1 e2 e3 e4 e5
  refine ⟨si, s3.wenv (put i.op.dst vi si).env, q1, ?_, ?_, e4, e5⟩
  ·have := stepG_env (looks_put (o := a) (dst := i.op.dst) (v := vi) (st := si) a3) q2
   rw [← put_env] at this
   exact this
  ·refine ⟨?_, ?_, ?_, fun t => ?_⟩
   ·rw [put_env, put_env (dst := a.op.dst)]; exact e1
   ·rw [put_env, put_env (dst := a.op.dst)]; exact e2
   ·rw [put_env, put_env (dst := a.op.dst)]; exact e3
   ·rw [get_put, get_put, ki, get_put]
    show _ = if a.op.dst = some t then va else get (put i.op.dst vi si).env t
    rw [get_put, es, ka]
    by_cases ha : a.op.dst = some t
    ·have hi : ¬ i.op.dst = some t := a2 t ha
     rw [if_neg hi, if_pos ha]
     simp [ha]
    ·rw [if_neg ha]
     simp [ha]
 by_cases c0 : a.cls = 0
 ·obtain ⟨rfl, n2⟩ := stepG_nul c0 h1
  refine fin (s2.wenv sa.env) (s2.wenv sa.env) rfl h2' (n2 _ rfl) rfl rfl rfl (fun _ => ⟨rfl, rfl⟩) fun hc => ?_
  omega
 ·by_cases c1 : i.cls = 0
  ·obtain ⟨n1, n2⟩ := stepG_nul c1 h2'
   have hs2 : s2.mem = sa.mem ∧ s2.esc = sa.esc ∧ s2.wr = sa.wr := by
    cases s2; cases sa
    simp only [St.wenv, St.mk.injEq] at n1
    exact ⟨n1.2.1, n1.2.2.1, n1.2.2.2⟩
   exact fin st sa rfl (n2 st ka.symm) h1 hs2.1 hs2.2.1 hs2.2.2 (fun hc => by omega) fun _ => ⟨rfl, rfl⟩
  ·by_cases hch : a.cls = 1 ∧ chkI i.op.i i.ml i.un = true ∧ i.un.contains a.ix = true
   ·obtain ⟨oka, ra, d1, e1, w1, f1⟩ := stepG_frm (.inl (cls_one hch.1)) h1
    obtain ⟨r1, r2⟩ := ra (cls_one hch.1)
    have hsa : sa = st := by
     cases d1 with
     | no => rw [e1, Dl.no_app]
     | _ => exfalso; simp [Dl.within, r1, r2] at w1
    have l2 := hsm hch.2.1 hch.2.2
    rw [recI_ne (by omega), hsa] at l2
    rw [hsa] at h2'
    have hag : Agree Fa st.mem s2.mem := agree_same oka r2 l2
    have q2 := f1 (s2.wenv st.env) rfl hag
    have hno : d1.app (s2.wenv st.env) = s2.wenv st.env := by
     cases d1 with
     | no => exact Dl.no_app _
     | _ => exfalso; simp [Dl.within, r1, r2] at w1
    rw [hno] at q2
    exact fin (s2.wenv st.env) (s2.wenv st.env) rfl h2' q2 rfl rfl rfl (fun _ => ⟨by rw [hsa], rfl⟩) fun hc => by omega
   by_cases hcl : a.cls = 3 ∧ i.cls = 1 ∧ i.un.contains a.ix = true
   ·obtain ⟨oki, ri, d2, e2, w2, f2⟩ := stepG_frm (.inl (cls_one hcl.2.1)) h2'
    obtain ⟨r1, r2⟩ := ri (cls_one hcl.2.1)
    have hfit := hf hcl.2.2
    rw [recI_call hcl.1] at hfit
    have hag : Agree Fi sa.mem st.mem := agree_same oki r2 fun b hb => (callF_sr hfit b hb).symm
    have q1 := f2 st ka.symm hag
    have hno : ∀ z, d2.app z = z := fun z => by
     cases d2 with
     | no => exact Dl.no_app _
     | _ => exfalso; simp [Dl.within, r1, r2] at w2
    rw [hno] at q1
    have hs2 : s2.mem = sa.mem ∧ s2.esc = sa.esc ∧ s2.wr = sa.wr := by
     rw [hno] at e2
     cases s2; cases sa
     simp only [St.wenv, St.mk.injEq] at e2
     exact ⟨e2.2.1, e2.2.2.1, e2.2.2.2⟩
    exact fin st sa rfl q1 h1 hs2.1 hs2.2.1 hs2.2.2 (fun hc => by omega) fun _ => ⟨rfl, rfl⟩
   have hcc : (a.cls = 1 ∧ i.cls = 1) ∨ (i.un.contains a.ix = true ∧ a.cls ≠ 3 ∧ i.cls ≠ 3) := by
    simp only [Bool.or_eq_true, Bool.and_eq_true, beq_iff_eq, bne_iff_ne] at hcls
    rcases hcls with ((((hq | hq) | hq) | hq) | hq) | hq
    ·exact absurd hq c0
    ·exact absurd hq c1
    ·exact .inl hq
    ·exact .inr ⟨hq.1.1, hq.1.2, hq.2⟩
    ·exact absurd ⟨hq.1.1, hq.1.2, hq.2⟩ hch
    ·exact absurd ⟨hq.1.1, hq.1.2, hq.2⟩ hcl
   have ca : a.op.i.cls = 1 ∨ a.op.i.cls = 2 := cls_cases c0 (by rcases hcc with hq | hq; omega; exact hq.2.1)
   have ci : i.op.i.cls = 1 ∨ i.op.i.cls = 2 := cls_cases c1 (by rcases hcc with hq | hq; omega; exact hq.2.2)
   obtain ⟨oka, ra, d1, e1, w1, f1⟩ := stepG_frm ca h1
   obtain ⟨oki, ri, d2, e2, w2, f2⟩ := stepG_frm ci h2'
   have hfit : Fits Fa Fi := by
    rcases hcc with hq | hq
    ·obtain ⟨x1, x2⟩ := ra (cls_one hq.1)
     obtain ⟨y1, y2⟩ := ri (cls_one hq.2)
     exact ⟨by simp [x2], by simp [x2], by simp [y2], by simp [x1], by simp [x1], by simp [y1]⟩
    ·have := hf hq.1
     rw [recI_ne hq.2.1] at this
     exact fits_spec this
   have g1 : Agree Fi st.mem sa.mem := by rw [e1]; exact agree_after oki w1 hfit
   have q1 := f2 st ka.symm g1.symm
   have w2' : d2.within Fi st.mem := within_agree w2 g1.symm
   have g2 : Agree Fa st.mem (d2.app st).mem := agree_after oka w2' hfit.symm
   have q2 := f1 (d2.app st) rfl g2
   have es : s2.mem = (d2.app sa).mem ∧ s2.esc = (d2.app sa).esc ∧ s2.wr = (d2.app sa).wr := by
    rw [← e2]; exact ⟨rfl, rfl, rfl⟩
   refine fin (d2.app st) (d1.app (d2.app st)) rfl q1 q2 ?_ ?_ ?_ (fun hc => by omega) (fun hc => by omega)
   ·rw [es.1, e1]; exact commute_mem w1 w2' hfit
   ·rw [es.2.1, e1]; simp only [Dl.app, mx_eq]; omega
   ·rw [es.2.2, e1]; simp only [Dl.app, mx_eq]; omega
theorem okF_cons {un : List Nat} {j : Nat} {fs : List (Nat × Foot)} {X : Foot} : okF un ((j, F) :: fs) X = true ↔ (un.contains j = true → F.fits X = true) ∧ okF un fs X = true := by
 unfold okF
 simp only [List.all_cons, Bool.and_eq_true]
 refine and_congr_left fun _ => ?_
 cases un.contains j <;> simp
theorem okF_sub {un : List Nat} {fs fs' : List (Nat × Foot)} {X : Foot} (h : ∀ p ∈ fs', p ∈ fs) (hk : okF un fs X = true) : okF un fs' X = true := by
 unfold okF at *
 rw [List.all_eq_true] at *
 exact fun p hp => hk p (h p hp)
theorem sameK_some {α : Type} {chk : Bool} {un : List Nat} {fs : List (Nat × Foot)} {x : Option α} {t : α} : sameK chk un fs m m2 x = some t ↔ (chk = true → sameP un fs m m2) ∧ x = some t := by
 unfold sameK
 split
 ·rename_i h
  exact ⟨fun h => (by cases h), fun h' => absurd (h'.1 h.1) h.2⟩
 ·rename_i h
  exact ⟨fun h' => ⟨fun hc => Classical.byContradiction fun hn => h ⟨hc, hn⟩, h'⟩, fun h' => h'.2⟩
theorem sameP_sub {un : List Nat} {fs fs' : List (Nat × Foot)} (h : ∀ p ∈ fs', p ∈ fs) (hk : sameP un fs m m2) : sameP un fs' m m2 := fun p hp => hk p (h p hp)
theorem execE_mono : ∀ (l : List EOp) (fs fs' : List (Nat × Foot)) (st st' t : St), execE call n0 n l fs st = some t → (∀ p ∈ fs', p ∈ fs) → Eqv st st' → ∃ t', execE call n0 n l fs' st' = some t' ∧ Eqv t t'
 | [], fs, fs', st, st', t, h, _, he => by
  simp only [execE, Option.some.injEq] at h
  subst h
  exact ⟨st', rfl, he⟩
 | o :: l, fs, fs', st, st', t, h, hs, he => by
  simp only [execE, Option.bind_eq_some_iff] at h
  obtain ⟨⟨v, s1, X⟩, hg, h⟩ := h
  split at h
  ·rename_i hk
   obtain ⟨hsame, h⟩ := sameK_some.1 h
   have h2 : stepG call n0 n o st' = some (v, s1.wenv st'.env, X) := by
    have := stepG_env (looks_get he.env) hg
    rwa [← he.wenv] at this
   have e2 : Eqv (put o.op.dst v s1) (put o.op.dst v (s1.wenv st'.env)) := by
    refine ⟨?_, ?_, ?_, fun u => ?_⟩
    ·cases o.op.dst <;> rfl
    ·cases o.op.dst <;> rfl
    ·cases o.op.dst <;> rfl
    ·rw [get_put, get_put, stepG_keeps hg]
     show _ = if o.op.dst = some u then v else get st'.env u
     rw [he.env]
   obtain ⟨t', q1, q2⟩ := execE_mono l ((o.ix, recI o.op.i o.ml st.mem s1.mem X) :: fs) ((o.ix, recI o.op.i o.ml st.mem s1.mem X) :: fs') _ _ t h (fun p hp => by
    simp only [List.mem_cons] at hp ⊢
    exact hp.imp id (hs p)) e2
   refine ⟨t', ?_, q2⟩
   simp only [execE, h2, Option.bind_some]
   rw [if_pos (okF_sub hs hk), ← he.mem]
   refine sameK_some.2 ⟨fun hc => ?_, q1⟩
   exact sameP_sub hs (hsame hc)
  ·cases h
theorem bubble {i : EOp} {B : List EOp} : ∀ (A : List EOp) (fs : List (Nat × Foot)) (st t : St), execE call n0 n (A ++ i :: B) fs st = some t → (∀ a ∈ A, pairE a i = true) → ∃ t', execE call n0 n (i :: (A ++ B)) fs st = some t' ∧ Eqv t t'
 | [], fs, st, t, h, _ => ⟨t, h, Eqv.refl t⟩
 | a :: A, fs, st, t, h, hp => by
  rw [List.cons_append, execE, Option.bind_eq_some_iff] at h
  obtain ⟨⟨va, sa, Fa⟩, ha, h⟩ := h
  split at h
  ·rename_i hka
   obtain ⟨hsa, h⟩ := sameK_some.1 h
   obtain ⟨t1, h1, q1⟩ := bubble A _ _ t h fun x hx => hp x (by simp [hx])
   rw [execE, Option.bind_eq_some_iff] at h1
   obtain ⟨⟨vi, s2, Fi⟩, hi, h1⟩ := h1
   split at h1
   ·rename_i hki
    have hpa := hp a (by simp)
    obtain ⟨hsi, h1⟩ := sameK_some.1 h1
    have hpm : (put a.op.dst va sa).mem = sa.mem := by cases a.op.dst <;> rfl
    simp only [hpm] at hsi
    obtain ⟨hk1, hk2⟩ := okF_cons.1 hki
    obtain ⟨si, s3, k1, k2, k3, k4, k5⟩ := swap2 hpa hk1 (fun hc hu b hb => hsi hc _ (List.mem_cons_self ..) hu b hb) ha hi
    have hpm2 : (put i.op.dst vi si).mem = si.mem := by cases i.op.dst <;> rfl
    have ra : recI a.op.i a.ml si.mem s3.mem Fa = recI a.op.i a.ml st.mem sa.mem Fa := by
     by_cases hc : a.cls = 3
     ·rw [(k5 hc).1, (k5 hc).2]
     ·rw [recI_ne hc, recI_ne hc]
    have ri : recI i.op.i i.ml st.mem si.mem Fi = recI i.op.i i.ml sa.mem s2.mem Fi := by
     by_cases hc : i.cls = 3
     ·rw [(k4 hc).1, (k4 hc).2]
     ·rw [recI_ne hc, recI_ne hc]
    simp only [hpm] at h1
    obtain ⟨t', r1, r2⟩ := execE_mono (A ++ B) _ ((a.ix, recI a.op.i a.ml si.mem s3.mem Fa) :: (i.ix, recI i.op.i i.ml st.mem si.mem Fi) :: fs) _ _ t1 h1 (fun p hp => by
     rw [ra, ri] at hp
     simp only [List.mem_cons] at hp ⊢
     rcases hp with hp | hp | hp
     ·exact .inr (.inl hp)
     ·exact .inl hp
     ·exact .inr (.inr hp)) k3
    refine ⟨t', ?_, q1.trans r2⟩
    have hun : a.un.contains i.ix = false := by
     unfold pairE at hpa
     simp only [Bool.and_eq_true, Bool.not_eq_true'] at hpa
     exact hpa.1.2
    rw [execE, k1, Option.bind_some, if_pos hk2, List.cons_append]
    refine sameK_some.2 ⟨fun hc => ?_, ?_⟩
    ·show sameP i.un fs st.mem si.mem
     have hc3 := chk_cls hc
     rw [(k4 hc3).2, ← (k4 hc3).1]
     exact sameP_sub (fun p hp => List.mem_cons_of_mem _ hp) (hsi hc)
    ·rw [execE, k2, Option.bind_some, if_pos (okF_cons.2 ⟨fun hc => absurd (hun.symm.trans hc) (by simp), hka⟩)]
     simp only [hpm2]
     refine sameK_some.2 ⟨fun hc => ?_, r1⟩
     show sameP a.un ((i.ix, _) :: fs) si.mem s3.mem
     have hc3 := chk_cls hc
     rw [(k5 hc3).1, (k5 hc3).2]
     intro p hp hu
     rcases List.mem_cons.1 hp with rfl | hp
     ·exact absurd (hun.symm.trans hu) (by simp)
     ·exact hsa hc p hp hu
   ·cases h1
  ·cases h
end
end Go.Proofs.YtfbeplbcaanimaaGreat
set_option linter.unusedVariables false
set_option linter.unusedSimpArgs false
namespace Go.Proofs.YtfbeplbcaanimaaGreat
open Go.RowKit
section
variable {P : Program} {base nt : Nat} {w0 w w' : World} {ι0 ι ι' ι1 : Nat → Nat × Nat} {m0 m m' : List Blk} {a : Act} {o : Oper} {st : St} {e : Nat} {wr : Nat}
 {call : FuncId → List V → List Blk → Option Ret} {env : List (Nat × V)} {ops : Array Oper} {n : Nat}
theorem dead_get {p : Nat} (h : isDead m p = true) : ∃ blk, m[p]? = some blk ∧ blk.cs = [] ∧ blk.esz = 1 ∧ blk.own = false := by
 unfold isDead at h
 split at h
 ·rename_i ty hb
  exact ⟨_, hb, rfl, rfl, rfl⟩
 ·cases h
theorem not_alive {blk : Blk} (h1 : blk.esz = 1) (h2 : blk.own = false) : ¬ blk.alive := fun h => by
 rcases h.or with h | h
 ·rw [h2] at h; cases h
 ·omega
section move
variable {blk : Blk} {p : Nat}
theorem CR.move (hd : isDead m p = true) {c : C} {r : Value} (h : CR w' ι1 (m ++ [blk]) c r) (hc : c.refs ≤ m.length) : CR w' (fun j => if j = p then ι1 m.length else ι1 j) (m.set p blk) c r := by
 obtain ⟨bd, d1, d2, d3, d4⟩ := dead_get hd
 have get : ∀ (b : Nat) (bb : Blk), b + 1 ≤ m.length → (m ++ [blk])[b]? = some bb → bb.alive → b ≠ p ∧ (m.set p blk)[b]? = some bb := by
  intro b bb hb hg ha
  rw [List.getElem?_append_left (by omega)] at hg
  have hne : b ≠ p := by
   rintro rfl
   rw [d1] at hg
   injection hg with hg
   subst hg
   exact not_alive d3 d4 ha
  exact ⟨hne, by rw [List.getElem?_set_ne (Ne.symm hne)]; exact hg⟩
 cases h with
 | junk => exact .junk _
 | undef => exact .undef
 | bool => exact .bool _
 | int => exact .int _ _
 | str => exact .str _
 | nilp => exact .nilp
 | nils => exact .nils
 | fn => exact .fn _
 | clo => exact .clo _ _
 | flat _ hv => exact .flat _ hv
 | @ptr b off tot bb _ h0 hb ht ha hv =>
  obtain ⟨k1, k2⟩ := get b bb hc hb ha
  refine .ptr h0 k2 ht ha fun e => ?_
  rw [hv e]
  unfold atA
  simp only [if_neg k1]
 | @clp f b off tot bb _ h0 hb ht ha hv =>
  obtain ⟨k1, k2⟩ := get b bb hc hb ha
  refine .clp f h0 k2 ht ha fun e => ?_
  rw [hv e]
  unfold atA
  simp only [if_neg k1]
 | @sl b off len tot bb _ h0 hb ht ha hv =>
  obtain ⟨k1, k2⟩ := get b bb hc hb ha
  refine .sl h0 k2 ht ha fun e => ?_
  obtain ⟨ad, cap, e1, e5, e2, e3, e4⟩ := hv e
  refine ⟨ad, cap, e1, fun hq => ?_, e2, e3, fun hz ho => ?_⟩
  ·rw [e5 hq]; unfold atA; simp only [if_neg k1]
  ·simp only [if_neg k1]; exact e4 hz ho
theorem CR.move_ptr (hd : isDead m p = true) {off tot : Nat} {r : Value} (h : CR w' ι1 (m ++ [blk]) (.ptr m.length off tot) r) : CR w' (fun j => if j = p then ι1 m.length else ι1 j) (m.set p blk) (.ptr p off tot) r := by
 obtain ⟨bd, d1, _⟩ := dead_get hd
 have hlt := lt_of_get d1
 cases h with
 | @ptr b off tot bb _ h0 hb ht ha hv =>
  have : bb = blk := by simpa using hb.symm
  subst this
  refine .ptr h0 (List.getElem?_set_self hlt) ht ha fun e => ?_
  rw [hv e]
  unfold atA
  simp
theorem CR.move_sl (hd : isDead m p = true) {off len tot : Nat} {r : Value} (h : CR w' ι1 (m ++ [blk]) (.sl m.length off len tot) r) : CR w' (fun j => if j = p then ι1 m.length else ι1 j) (m.set p blk) (.sl p off len tot) r := by
 obtain ⟨bd, d1, _⟩ := dead_get hd
 have hlt := lt_of_get d1
 cases h with
 | @sl b off len tot bb _ h0 hb ht ha hv =>
  have : bb = blk := by simpa using hb.symm
  subst this
  refine .sl h0 (List.getElem?_set_self hlt) ht ha fun e => ?_
  obtain ⟨ad, cap, e1, e5, e2, e3, e4⟩ := hv e
  refine ⟨ad, cap, e1, fun hq => ?_, e2, e3, fun hz ho => ?_⟩
  ·rw [e5 hq]; unfold atA; simp
  ·simp only [if_true]; exact e4 hz ho
theorem MR.move (h0 : MR base w0 ι0 m0 w ι m e wr) {e' : Nat} {wr' : Nat} (hm : MR base w0 ι0 m0 w' ι1 (m ++ [blk]) e' wr') (hev : Evo w ι m w' ι1 (m ++ [blk])) (hd : isDead m p = true) (hp : m0.length - wr' ≤ p) (hown : blk.own = true) (hr : refsL blk.cs ≤ m.length) :
  MR base w0 ι0 m0 w' (fun j => if j = p then ι1 m.length else ι1 j) (m.set p blk) e' wr' ∧ Evo w ι m w' (fun j => if j = p then ι1 m.length else ι1 j) (m.set p blk) := by
 obtain ⟨bd, d1, d2, d3, d4⟩ := dead_get hd
 have hlt := lt_of_get d1
 have hnew : (m ++ [blk])[m.length]? = some blk := by simp
 -- what lies in the new memory lay in the one before it
 have from' : ∀ (b : Nat) (bb : Blk), (m.set p blk)[b]? = some bb → (b = p ∧ bb = blk) ∨ (b ≠ p ∧ m[b]? = some bb ∧ (m ++ [blk])[b]? = some bb) := by
  intro b bb hb
  by_cases hbp : b = p
  ·subst hbp
   rw [List.getElem?_set_self hlt] at hb
   injection hb with hb
   exact .inl ⟨rfl, hb.symm⟩
  ·rw [List.getElem?_set_ne (Ne.symm hbp)] at hb
   exact .inr ⟨hbp, hb, by rw [List.getElem?_append_left (lt_of_get hb)]; exact hb⟩
 have old : ∀ (b : Nat) (bb : Blk), m[b]? = some bb → b ≠ p → (m.set p blk)[b]? = some bb := fun b bb hb hbp => by rw [List.getElem?_set_ne (Ne.symm hbp)]; exact hb
 have refs : ∀ (b : Nat) (bb : Blk) (c : C), m[b]? = some bb → c ∈ bb.cs → c.refs ≤ m.length := fun b bb c hb hc => h0.sim.refs_le hb hc
 have sim : Sim base w' (fun j => if j = p then ι1 m.length else ι1 j) (m.set p blk) := by
  refine ⟨hm.sim.le, fun b bb hb ho => ?_, fun b bb hb ho hz => ?_, fun b bb hb ho hz => ?_, fun b b' bb bb' hb hb' ho ho' he => ?_⟩
  ·rcases from' b bb hb with ⟨rfl, rfl⟩ | ⟨hne, hb1, hb2⟩
   ·obtain ⟨h1, h2, rc, h3, h4, h5⟩ := hm.sim.own _ _ hnew ho
    simp only [if_true]
    exact ⟨h1, h2, rc, h3, h4, fun j c hj => let ⟨r, q1, q2, q3⟩ := h5 j c hj; ⟨r, q1, q2.move hd (refsL_le.1 hr c (List.mem_of_getElem? hj)), q3⟩⟩
   ·obtain ⟨h1, h2, rc, h3, h4, h5⟩ := hm.sim.own _ _ hb2 ho
    simp only [if_neg hne]
    exact ⟨h1, h2, rc, h3, h4, fun j c hj => let ⟨r, q1, q2, q3⟩ := h5 j c hj; ⟨r, q1, q2.move hd (refs b bb c hb1 (List.mem_of_getElem? hj)), q3⟩⟩
  ·rcases from' b bb hb with ⟨rfl, rfl⟩ | ⟨hne, hb1, hb2⟩
   ·rw [hown] at ho; cases ho
   ·obtain ⟨h1, h2⟩ := hm.sim.ro _ _ hb2 ho hz
    simp only [if_neg hne]
    refine ⟨h1, fun j c hj => ?_⟩
    obtain ⟨r, q1, q2, q3⟩ := h2 j c hj
    refine ⟨r, ?_, q2.move hd (refs b bb c hb1 (List.mem_of_getElem? hj)), q3⟩
    simp only [atA, if_neg hne] at q1 ⊢
    exact q1
  ·rcases from' b bb hb with ⟨rfl, rfl⟩ | ⟨hne, hb1, hb2⟩
   ·rw [hown] at ho; cases ho
   ·exact hm.sim.non _ _ hb2 ho hz
  ·rcases from' b bb hb with ⟨rfl, rfl⟩ | ⟨hne, hb1, hb2⟩ <;> rcases from' b' bb' hb' with ⟨rfl, rfl⟩ | ⟨hne', hb1', hb2'⟩
   ·rfl
   ·simp only [if_true, if_neg hne'] at he
    have := hm.sim.inj _ _ _ _ hnew hb2' ho ho' he
    have := lt_of_get hb1'
    omega
   ·simp only [if_true, if_neg hne] at he
    have := hm.sim.inj _ _ _ _ hb2 hnew ho ho' he
    have := lt_of_get hb1
    omega
   ·simp only [if_neg hne, if_neg hne'] at he
    exact hm.sim.inj _ _ _ _ hb2 hb2' ho ho' he
 have hlen := h0.evo.len
 have evo0 : Evo w0 ι0 m0 w' (fun j => if j = p then ι1 m.length else ι1 j) (m.set p blk) := by
  intro b bb hb
  have hb0 := lt_of_get hb
  by_cases hne : b = p
  ·subst hne
   refine ⟨blk, List.getElem?_set_self hlt, fun ha => ?_⟩
   exfalso
   obtain ⟨b2, q1, q2⟩ := h0.evo b bb hb
   rw [d1] at q1
   injection q1 with q1
   subst q1
   obtain ⟨k1, k2, _⟩ := q2 ha
   exact not_alive (by rw [← k2]; exact d3) (by rw [← k1]; exact d4) ha
  obtain ⟨b2, q1, q2⟩ := hm.evo b bb hb
  rw [List.getElem?_append_left (by omega)] at q1
  exact ⟨b2, old b b2 q1 hne, by simpa only [if_neg hne] using q2⟩
 have evo : Evo w ι m w' (fun j => if j = p then ι1 m.length else ι1 j) (m.set p blk) := by
  intro b bb hb
  by_cases hbp : b = p
  ·subst hbp
   rw [d1] at hb
   injection hb with hb
   subst hb
   exact ⟨blk, List.getElem?_set_self hlt, fun ha => absurd ha (not_alive d3 d4)⟩
  ·obtain ⟨b2, q1, q2⟩ := hev b bb hb
   rw [List.getElem?_append_left (lt_of_get hb)] at q1
   exact ⟨b2, old b b2 q1 hbp, by simpa only [if_neg hbp] using q2⟩
 refine ⟨⟨sim, evo0, hm.fr, fun b bb hb ho hl => ?_, ⟨fun b hb => ?_, hm.bel.2⟩, hm.refs0, fun b bb c hb hc => ?_⟩, evo⟩
 ·rcases from' b bb hb with ⟨rfl, rfl⟩ | ⟨hne, hb1, hb2⟩
  ·simp only [if_true] at hl ⊢
   exact hm.fresh _ _ hnew ho hl
  ·simp only [if_neg hne] at hl ⊢
   exact hm.fresh _ _ hb2 ho hl
 ·rw [List.getElem?_set_ne (by omega)]
  have := hm.bel.1 b hb
  rwa [List.getElem?_append_left (by omega)] at this
 ·rcases from' b bb hb with ⟨rfl, rfl⟩ | ⟨hne, hb1, hb2⟩
  ·rcases hm.esc _ _ c hnew hc with q | ⟨b0, q1, q2⟩
   ·exact .inl q
   ·have := lt_of_get q1
    omega
  ·exact hm.esc _ _ c hb2 hc
end move
theorem dead_app {k b : Nat} {bb : Blk} (h : (m ++ List.replicate k dead)[b]? = some bb) : m[b]? = some bb ∨ (m.length ≤ b ∧ bb = dead) := by
 rcases Nat.lt_or_ge b m.length with hb | hb
 ·rw [List.getElem?_append_left hb] at h; exact .inl h
 ·rw [List.getElem?_append_right hb] at h
  exact .inr ⟨hb, (List.mem_replicate.1 (List.mem_of_getElem? h)).2⟩
theorem CR.app (l : List Blk) {c : C} {r : Value} (h : CR w ι m c r) : CR w ι (m ++ l) c r := by
 cases h with
 | junk => exact .junk _
 | undef => exact .undef
 | bool => exact .bool _
 | int => exact .int _ _
 | str => exact .str _
 | nilp => exact .nilp
 | nils => exact .nils
 | fn => exact .fn _
 | clo => exact .clo _ _
 | flat _ hv => exact .flat _ hv
 | ptr h0 hb ht ha hv => exact .ptr h0 (by rw [List.getElem?_append_left (lt_of_get hb)]; exact hb) ht ha hv
 | clp f h0 hb ht ha hv => exact .clp f h0 (by rw [List.getElem?_append_left (lt_of_get hb)]; exact hb) ht ha hv
 | sl h0 hb ht ha hv => exact .sl h0 (by rw [List.getElem?_append_left (lt_of_get hb)]; exact hb) ht ha hv
theorem AR.app (l : List Blk) {cs : List C} {rs : List Value} (h : AR w ι m cs rs) : AR w ι (m ++ l) cs rs := ⟨h.1, fun j c hj => let ⟨r, h1, h2, h3⟩ := h.2 j c hj; ⟨r, h1, h2.app l, h3⟩⟩
theorem WR.app (l : List Blk) {v : V} {r : Value} (h : WR w ι m v r) : WR w ι (m ++ l) v r := by
 cases h with
 | c h => exact .c (h.app l)
 | agg h => exact .agg (h.app l)
theorem VR.app (l : List Blk) {v : V} {r : Value} (h : VR w ι m v r) : VR w ι (m ++ l) v r := by
 cases h with
 | one h => exact .one (h.app l)
 | tup hl hh => exact .tup hl fun j v hj => let ⟨r, h1, h2⟩ := hh j v hj; ⟨r, h1, h2.app l⟩
theorem MR.dead (h : MR base w0 ι0 m0 w ι m e wr) (k : Nat) : MR base w0 ι0 m0 w ι (m ++ List.replicate k dead) e wr := by
 refine ⟨⟨h.sim.le, fun b bb hb ho => ?_, fun b bb hb ho hz => ?_, fun b bb hb ho hz => ?_, fun b b' bb bb' hb hb' ho ho' he => ?_⟩, fun b bb hb => ?_, h.fr, fun b bb hb ho hl => ?_, ⟨fun b hb => ?_, h.bel.2⟩, h.refs0, fun b bb c hb hc => ?_⟩
 ·rcases dead_app hb with hb | ⟨_, rfl⟩
  ·obtain ⟨h1, h2, rc, h3, h4, h5⟩ := h.sim.own b bb hb ho
   exact ⟨h1, h2, rc, h3, h4, fun j c hj => let ⟨r, q1, q2, q3⟩ := h5 j c hj; ⟨r, q1, q2.app _, q3⟩⟩
  ·cases ho
 ·rcases dead_app hb with hb | ⟨_, rfl⟩
  ·obtain ⟨h1, h2⟩ := h.sim.ro b bb hb ho hz
   exact ⟨h1, fun j c hj => let ⟨r, q1, q2, q3⟩ := h2 j c hj; ⟨r, q1, q2.app _, q3⟩⟩
  ·cases hz
 ·rcases dead_app hb with hb | ⟨_, rfl⟩
  ·exact h.sim.non b bb hb ho hz
  ·rfl
 ·rcases dead_app hb with hb | ⟨_, rfl⟩ <;> rcases dead_app hb' with hb' | ⟨_, rfl⟩
  ·exact h.sim.inj b b' bb bb' hb hb' ho ho' he
  ·cases ho'
  ·cases ho
  ·cases ho
 ·obtain ⟨b2, q1, q2⟩ := h.evo b bb hb
  exact ⟨b2, by rw [List.getElem?_append_left (lt_of_get q1)]; exact q1, q2⟩
 ·rcases dead_app hb with hb | ⟨_, rfl⟩
  ·exact h.fresh b bb hb ho hl
  ·cases ho
 ·have hl := h.evo.len
  rw [List.getElem?_append_left (by omega)]
  exact h.bel.1 b hb
 ·rcases dead_app hb with hb | ⟨_, rfl⟩
  ·exact h.esc b bb c hb hc
  ·cases hc
theorem SR.dead (h : SR P base nt w0 ι0 m0 w ι st a) (k : Nat) : SR P base nt w0 ι0 m0 w ι { st with mem := st.mem ++ List.replicate k dead } a := ⟨h.mem.dead k, fun t => (h.env t).app _, h.defers, h.size⟩
theorem SR.eqv {st2 : St} (h : SR P base nt w0 ι0 m0 w ι st a) (he : Eqv st st2) : SR P base nt w0 ι0 m0 w ι st2 a :=
 ⟨by rw [← he.mem, ← he.esc, ← he.wr]; exact h.mem, fun t => by rw [← he.mem, ← he.env]; exact h.env t, h.defers, h.size⟩
theorem makes_rel {n0 : Nat} {i : I} (hm : i.makes = true) {r : V × St} (hr : stepL call n0 { st with mem := [] } i = some r) :
  ∃ blk e, r.2 = { st with mem := [blk], esc := mx st.esc e } ∧ blk.own = true ∧
   ((∃ o t, r.1 = .c (.ptr 0 o t) ∧ stepL call n0 st i = some (.c (.ptr st.mem.length o t), { st with mem := st.mem ++ [blk], esc := mx st.esc e })) ∨
    (∃ o l t, r.1 = .c (.sl 0 o l t) ∧ stepL call n0 st i = some (.c (.sl st.mem.length o l t), { st with mem := st.mem ++ [blk], esc := mx st.esc e }))) := by
 cases i with
 | alloc z ty =>
  simp only [stepL, Option.some.injEq] at hr
  subst hr
  exact ⟨_, _, rfl, rfl, .inl ⟨_, _, rfl, rfl⟩⟩
 | box x ty =>
  simp only [stepL, Option.bind_eq_some_iff, Option.some.injEq] at hr
  obtain ⟨z, hz, rfl⟩ := hr
  exact ⟨_, _, rfl, rfl, .inl ⟨_, _, rfl, by simp only [stepL, hz, Option.bind_some]⟩⟩
 | mks k z ty bytes =>
  simp only [stepL, Option.bind_eq_some_iff, guard'] at hr
  obtain ⟨l, hl, hr⟩ := hr
  split at hr
  ·rename_i hc
   injection hr with hr
   subst hr
   exact ⟨_, _, rfl, rfl, .inr ⟨_, _, _, rfl, by simp only [stepL, hl, Option.bind_some, guard', if_pos hc]⟩⟩
  ·cases hr
 | lit k esz z ps ty =>
  simp only [stepL, guard'] at hr
  split at hr
  ·rename_i hc
   simp only [Option.bind_eq_some_iff] at hr
   obtain ⟨cs, hcs, hr⟩ := hr
   split at hr
   ·rename_i hc2
    injection hr with hr
    subst hr
    exact ⟨_, _, rfl, rfl, .inr ⟨_, _, _, rfl, by simp only [stepL, hcs, Option.bind_some, guard', if_pos hc, if_pos hc2]⟩⟩
   ·cases hr
  ·cases hr
 | _ => cases hm
theorem VR.of_refs0 {v : V} {r : Value} (h : VR w ι m v r) (hv : v.refs = 0) : VR w ι [] v r := by
 have := h.take (k := 0) (by omega)
 simpa using this
theorem refsAll_mem {vs : List V} (h : V.refsAll vs = 0) {v : V} (hv : v ∈ vs) : v.refs = 0 := by
 have := refsAll_le.1 (Nat.le_of_eq h) v hv
 omega
theorem sim_none (s : Sim base w ι m) : Sim base w ι [] := ⟨s.le, by simp, by simp, by simp, by simp⟩
theorem CR.none {c : C} {r : Value} (h : CR w ι [] c r) : CR w ι' m c r := by
 cases h with
 | junk => exact .junk _
 | undef => exact .undef
 | bool => exact .bool _
 | int => exact .int _ _
 | str => exact .str _
 | nilp => exact .nilp
 | nils => exact .nils
 | fn => exact .fn _
 | clo => exact .clo _ _
 | flat _ hv => exact .flat _ hv
 | ptr h0 hb ht ha hv => cases hb
 | clp f h0 hb ht ha hv => cases hb
 | sl h0 hb ht ha hv => cases hb
theorem WR.none {v : V} {r : Value} (h : WR w ι [] v r) : WR w ι' m v r := by
 cases h with
 | c h => exact .c h.none
 | agg h => exact .agg ⟨h.1, fun j c hj => let ⟨r, h1, h2, h3⟩ := h.2 j c hj; ⟨r, h1, h2.none, h3⟩⟩
theorem VR.none {v : V} {r : Value} (h : VR w ι [] v r) : VR w ι' m v r := by
 cases h with
 | one h => exact .one h.none
 | tup hl hh => exact .tup hl fun j v hj => let ⟨r, h1, h2⟩ := hh j v hj; ⟨r, h1, h2.none⟩
theorem wp_pure (hC : CallOk P call) (h : SR P base nt w0 ι0 m0 w ι st a) {c : Call} {f : FuncId} (ho : o.op = .call c) {x : Operand} (hx : c.callee = .value x) (hv : a.eval x = .func (.func f) #[] #[]) {ret : Ret}
  (hr : call f ((c.args.toList.map trO).map (·.ev st.env)) [] = some ret) (h0 : V.refsAll ((c.args.toList.map trO).map (·.ev st.env)) = 0) (h1 : ret.wr = 0) (h2 : ret.mem = []) {K : Act → World → Prop} {Q : Exit → Act → World → Prop}
  (hK : ∀ w' ι' r, VR w' ι' st.mem ret.v r → MR base w0 ι0 m0 w' ι' st.mem st.esc st.wr → Evo w ι st.mem w' ι' st.mem → K (a.put o.dst r) w') : o.wp P a w K Q := by
 obtain ⟨hf, hcall⟩ := hC f _ [] ret hr
 obtain ⟨a1, a2⟩ := args_VR h.env c.args.toList
 have hc := hcall base w ι (c.args.toList.map a.eval) (sim_none h.mem.sim) a1 fun j v hj => by
  obtain ⟨r, r1, r2⟩ := a2 j v hj
  exact ⟨r, r1, r2.of_refs0 (refsAll_mem h0 (List.mem_of_getElem? hj))⟩
 unfold Oper.wp
 rw [run_call ho hx hv hf w, Oper.upon_enter]
 have ha : (c.args.toList.map a.eval).toArray = c.args.map a.eval := by apply Array.ext'; simp
 rw [← ha]
 refine hc.mono fun e w' ⟨r, ι', he, hv', hm⟩ => ?_
 subst he
 rw [h1] at hm
 obtain ⟨hB, _⟩ := hm.below
 have hB' : Below w.heap.size w w' := hB
 refine hK w' ι r ?_ (h.mem.later hB') (Evo.below hB' h.mem.sim)
 rw [h2] at hv'
 exact hv'.none
theorem stepE_sound (hC : CallOk P call) (h : SR P base nt w0 ι0 m0 w ι st a) {e : EOp} (hn : m0.length - st.wr ≤ n) (ht : trI P o.op = some e.op.i) {v : V} {st' : St} (hs : stepE call m0.length n e st = some (v, st')) {K : Act → World → Prop} {Q : Exit → Act → World → Prop}
  (hK : ∀ w' ι' r, VR w' ι' st'.mem v r → MR base w0 ι0 m0 w' ι' st'.mem st'.esc st'.wr → Evo w ι st.mem w' ι' st'.mem → K (a.put o.dst r) w') : o.wp P a w K Q := by
 unfold stepE at hs
 split at hs
 ·rename_i hm
  simp only [Option.bind_eq_some_iff] at hs
  obtain ⟨r, hr, hs⟩ := hs
  obtain ⟨blk, e2, q1, q2, q3⟩ := makes_rel hm hr
  rcases q3 with ⟨o1, t1, g1, g2⟩ | ⟨o1, l1, t1, g1, g2⟩
  ·simp only [place, q1, g1, guard'] at hs
   split at hs
   ·rename_i hd
    injection hs with hs
    injection hs with h1 h2
    subst h1; subst h2
    refine (step_sound hC h ht g2 fun w' ι' r hv hm hev => ?_).2
    obtain ⟨m1, m2⟩ := h.mem.move hm hev hd.1 (by show m0.length - st.wr ≤ n + e.p; omega) q2 hd.2
    exact hK w' _ r (.c (hv.of_c.move_ptr hd.1)) m1 m2
   ·cases hs
  ·simp only [place, q1, g1, guard'] at hs
   split at hs
   ·rename_i hd
    injection hs with hs
    injection hs with h1 h2
    subst h1; subst h2
    refine (step_sound hC h ht g2 fun w' ι' r hv hm hev => ?_).2
    obtain ⟨m1, m2⟩ := h.mem.move hm hev hd.1 (by show m0.length - st.wr ≤ n + e.p; omega) q2 hd.2
    exact hK w' _ r (.c (hv.of_c.move_sl hd.1)) m1 m2
   ·cases hs
 ·split at hs
  ·split at hs
   ·rename_i f l hi
    rw [hi] at ht
    obtain ⟨c, hop, hc, rfl⟩ := inv_call ht
    simp only [Option.bind_eq_some_iff] at hs
    obtain ⟨ret, hr, hs⟩ := hs
    unfold pureC at hs
    split at hs
    ·rename_i hq
     injection hs with hs
     injection hs with h1 h2
     subst h1; subst h2
     exact wp_pure hC h hop hc rfl hr hq.1 hq.2.1 hq.2.2 hK
    ·cases hs
   ·rename_i x l hi
    rw [hi] at ht
    obtain ⟨c, t, hop, hc, rfl, rfl⟩ := inv_callv ht
    split at hs
    ·rename_i f hp
     simp only [Option.bind_eq_some_iff] at hs
     obtain ⟨ret, hr, hs⟩ := hs
     unfold pureC at hs
     split at hs
     ·rename_i hq
      injection hs with hs
      injection hs with h1 h2
      subst h1; subst h2
      have hv := h.env t
      have hp' : get st.env t = .c (.fn f) := hp
      rw [hp'] at hv
      exact wp_pure hC h hop hc hv.fn hr hq.1 hq.2.1 hq.2.2 hK
     ·cases hs
    ·cases hs
   ·cases hs
  ·split at hs
   ·cases hs
   ·exact (step_sound hC h ht hs hK).2
theorem SR.put {v : V} {st' : St} {r : Value} {dst : Option Nat} (h : SR P base nt w0 ι0 m0 w ι st a) (hv : VR w' ι' st'.mem v r) (hm : MR base w0 ι0 m0 w' ι' st'.mem st'.esc st'.wr) (he : Evo w ι st.mem w' ι' st'.mem) (henv : st'.env = st.env) (hd : ∀ d, dst = some d → d < nt) :
  SR P base nt w0 ι0 m0 w' ι' (put dst v st') (a.put dst r) := by
 cases dst with
 | none => exact ⟨hm, fun t => by have := (h.env t).evo he; rw [← henv] at this; exact this, h.defers, h.size⟩
 | some d =>
  have he' : EnvR w' ι' st'.mem st'.env a := fun t => by rw [henv]; exact (h.env t).evo he
  exact ⟨hm, he'.put (by rw [h.size]; exact hd d rfl) hv, h.defers, by simp [Act.put, h.size]⟩
def GdR (ops : Array Oper) (o : Oper) (e : EOp) : Prop := (o.guard = none ∧ e.op.gd = none) ∨ ∃ j b t, o.guard = some (j, b) ∧ e.op.gd = some (t, b) ∧ (ops[j]?).bind (·.dst) = some t
structure TrR (P : Program) (nt : Nat) (ops : Array Oper) (R : List (List Nat)) (all : List EOp) : Prop where
 reach : reachOk ops R = true
 len : all.length = ops.size
 op : ∀ (k : Nat) (o : Oper), ops[k]? = some o → ∃ e, all[k]? = some e ∧ e.op.dst = o.dst ∧ trI P o.op = some e.op.i ∧ (∀ d, o.dst = some d → d < nt) ∧ GdR ops o e
 ix : ∀ (k : Nat) (e : EOp), all[k]? = some e → e.ix = k
 lt : ∀ (k : Nat) (o : Oper), ops[k]? = some o → ∀ e ∈ o.after, Region.binds .any e = true → e.on < k
 pair : ∀ (j k : Nat) (x y : EOp), j < k → all[j]? = some x → all[k]? = some y → inR R j k = true ∨ pairE x y = true ∨ (pendE x y = true ∧ ∀ d, d < all.length → inR R k d = true → inR R j d = true)
theorem wantB_sound (he : EnvR w ι m env a) {ex : EOp} (hg : GdR ops o ex) {t : Bool} (hw : wantB env ex.op.gd = some t) : Region.wanted o (yielded ops a.tmps) = t := by
 rcases hg with ⟨h1, h2⟩ | ⟨j, b, t', h1, h2, h3⟩
 ·rw [h2] at hw
  simp only [wantB, Option.some.injEq] at hw
  subst hw
  simp [Region.wanted, h1]
 ·rw [h2] at hw
  simp only [wantB] at hw
  have ht := he t'
  split at hw
  ·rename_i x hx
   rw [hx] at ht
   injection hw with hw
   have hb := ht.bool
   have htm : a.tmps[t']? = some (.bool x) := by
    cases hq : a.tmps[t']? with
    | none => simp [hq, Go.undef] at hb
    | some q => simp [hq] at hb; rw [hb]
   subst hw
   cases x <;> cases b <;> simp [Region.wanted, h1, yielded, h3, htm]
  ·rename_i hx
   injection hw with hw
   subst hw
   rw [hx] at ht
   have : a.tmps.getD t' undef = Go.undef := by
    have ht' := ht.of_c
    generalize a.tmps.getD t' undef = q at ht'
    cases ht'
    rfl
   cases hq : a.tmps[t']? with
   | none => simp [Region.wanted, h1, yielded, h3, hq]
   | some q =>
    have hq' : q = Go.undef := by simpa [hq] using this
    subst hq'
    simp [Region.wanted, h1, yielded, h3, hq, Go.undef]
  ·cases hw
theorem getD_ft {listed : Array Bool} {j : Nat} (hj : j < listed.size) (h : ¬ listed.getD j false = true) : listed.getD j true = false := by
 simp [hj] at h ⊢; exact h
def todo (listed : Array Bool) (all : List EOp) : List EOp := all.filter fun e => !(listed.getD e.ix true)
def Closed (ops : Array Oper) (listed : Array Bool) : Prop := ∀ (k : Nat) (o : Oper), ops[k]? = some o → listed.getD k false = true → ∀ e ∈ o.after, Region.binds .any e = true → listed.getD e.on false = true
theorem reach_listed {R : List (List Nat)} (hr : reachOk ops R = true) {listed : Array Bool} (hc : Closed ops listed) : ∀ (k : Nat) (o : Oper), ops[k]? = some o → (∀ e ∈ o.after, Region.binds .any e = true → listed.getD e.on false = true) → ∀ j, inR R j k = true → listed.getD j false = true := by
 intro k
 induction k using Nat.strongRecOn with
 | _ k ih =>
  intro o ho ha j hj
  unfold reachOk at hr
  rw [List.all_eq_true] at hr
  have hk : k < ops.size := (Array.getElem?_eq_some_iff.1 ho).1
  have := hr k (List.mem_range.2 hk)
  rw [List.all_eq_true] at this
  have := this j (by simpa [inR] using hj)
  rw [ho] at this
  simp only [Option.map_some, Option.getD_some, Array.any_eq_true, Bool.and_eq_true, Bool.or_eq_true, beq_iff_eq, decide_eq_true_eq] at this
  obtain ⟨q, hq, hb, h⟩ := this
  have hl := ha _ (Array.getElem_mem hq) hb
  rcases h with h | ⟨h1, h2⟩
  ·rw [h] at hl; exact hl
  ·have hlt : o.after[q].on < ops.size := by omega
   exact ih _ h1 ops[o.after[q].on] (by simp [hlt]) (hc _ _ (by simp [hlt]) hl) j h2
theorem ready_some {R : List (List Nat)} {all : List EOp} (ht : TrR P nt ops R all) {listed : Array Bool} (hsz : listed.size = ops.size) : ∀ (k : Nat), k < ops.size → listed.getD k true = false → Region.ready .any ops listed ≠ [] := by
 intro k
 induction k using Nat.strongRecOn with
 | _ k ih =>
  intro hk hl
  by_cases hall : ∀ e ∈ (ops[k]).after, Region.binds .any e = true → listed.getD e.on false = true
  ·have : k ∈ Region.ready .any ops listed := mem_ready.2 ⟨hl, ops[k], by simp [hk], hall⟩
   intro h0
   rw [h0] at this
   cases this
  ·simp only [Classical.not_forall] at hall
   obtain ⟨e, he, hb, hn⟩ := hall
   have hlt := ht.lt k ops[k] (by simp [hk]) e he hb
   exact ih e.on hlt (by omega) (getD_ft (by omega) hn)
end
end Go.Proofs.YtfbeplbcaanimaaGreat
set_option linter.unusedVariables false
set_option linter.unusedSimpArgs false
namespace Go.Proofs.YtfbeplbcaanimaaGreat
open Go.RowKit
section
variable {P : Program} {base nt : Nat} {w0 w w' : World} {ι0 ι ι' ι1 : Nat → Nat × Nat} {m0 m m' : List Blk} {a : Act} {o : Oper} {st : St} {e : Nat} {wr : Nat}
 {call : FuncId → List V → List Blk → Option Ret} {env : List (Nat × V)} {ops : Array Oper} {n : Nat}
theorem wrt_base {n0 N W0 b off tot : Nat} {st st1 : St} {cs : List C} (hN : n0 ≤ N) (hs : wrt st n0 b off tot cs = some st1) :
  ∃ s0, wrt ⟨st.env, st.mem, 0, W0⟩ N b off tot cs = some s0 ∧ s0.mem = st1.mem ∧ s0.env = st1.env ∧ st1.esc = mx st.esc s0.esc ∧ (W0 - (N - n0) ≤ st.wr → st1.wr = mx st.wr (s0.wr - (N - n0))) := by
 simp only [wrt, Option.bind_eq_some_iff, guard'] at hs ⊢
 obtain ⟨blk, h1, hs⟩ := hs
 split at hs
 ·rename_i hc
  injection hs with hs
  subst hs
  refine ⟨⟨st.env, st.mem.set b { blk with cs := lay blk.cs off cs }, mx 0 (refsL cs), mx W0 (N - b)⟩, ⟨blk, h1, by rw [if_pos hc]⟩, rfl, rfl, by simp [mx_eq], fun h => ?_⟩
  simp only [mx_eq]
  omega
 ·cases hs
theorem stepL_base {n0 N W0 : Nat} {st st1 : St} {i : I} {v : V} (hN : n0 ≤ N) (hm : N ≤ st.mem.length) (hs : stepL call n0 st i = some (v, st1)) :
  ∃ s0, stepL call N ⟨st.env, st.mem, 0, W0⟩ i = some (v, s0) ∧ s0.mem = st1.mem ∧ s0.env = st1.env ∧ st1.esc = mx st.esc s0.esc ∧ (W0 - (N - n0) ≤ st.wr → st1.wr = mx st.wr (s0.wr - (N - n0))) := by
 have quiet : (stepQ st.env st.mem i).bind (fun v => some (v, st)) = some (v, st1) → (∀ n s, stepL call n s i = (stepQ s.env s.mem i).bind fun v => some (v, s)) → ∃ s0, stepL call N ⟨st.env, st.mem, 0, W0⟩ i = some (v, s0) ∧ s0.mem = st1.mem ∧ s0.env = st1.env ∧ st1.esc = mx st.esc s0.esc ∧ (W0 - (N - n0) ≤ st.wr → st1.wr = mx st.wr (s0.wr - (N - n0))) := by
  intro h hq
  obtain ⟨rfl, h1⟩ := stepQ_state h
  exact ⟨⟨st1.env, st1.mem, 0, W0⟩, by rw [hq]; simp only [h1, Option.bind_some], rfl, rfl, by simp [mx_eq], fun h => by simp only [mx_eq]; omega⟩
 have kall : ∀ (f : FuncId) (vs : List V), ((call f vs st.mem).bind fun r => some (r.v, { st with mem := r.mem, esc := mx st.esc r.esc, wr := mx st.wr (r.wr - (st.mem.length - n0)) })) = some (v, st1) →
   ∃ s0, ((call f vs st.mem).bind fun r => some (r.v, (⟨st.env, r.mem, mx 0 r.esc, mx W0 (r.wr - (st.mem.length - N))⟩ : St))) = some (v, s0) ∧ s0.mem = st1.mem ∧ s0.env = st1.env ∧ st1.esc = mx st.esc s0.esc ∧ (W0 - (N - n0) ≤ st.wr → st1.wr = mx st.wr (s0.wr - (N - n0))) := by
  intro f vs h
  simp only [Option.bind_eq_some_iff, Option.some.injEq, Prod.mk.injEq] at h ⊢
  obtain ⟨r, hr, rfl, rfl⟩ := h
  refine ⟨⟨st.env, r.mem, mx 0 r.esc, mx W0 (r.wr - (st.mem.length - N))⟩, ⟨r, hr, rfl, rfl⟩, rfl, rfl, by simp [mx_eq], fun h => ?_⟩
  simp only [mx_eq]
  omega
 cases i with
 | alloc z ty =>
  simp only [stepL, Option.some.injEq, Prod.mk.injEq] at hs ⊢
  obtain ⟨rfl, rfl⟩ := hs
  exact ⟨⟨st.env, st.mem ++ [⟨z, ty, 0, true⟩], mx 0 (refsL z), W0⟩, ⟨rfl, rfl⟩, rfl, rfl, by simp [mx_eq], fun h => by simp only [mx_eq]; omega⟩
 | box x ty =>
  simp only [stepL, Option.bind_eq_some_iff, Option.some.injEq, Prod.mk.injEq] at hs ⊢
  obtain ⟨z, hz, rfl, rfl⟩ := hs
  exact ⟨⟨st.env, st.mem ++ [⟨z, ty, 0, true⟩], mx 0 (refsL z), W0⟩, ⟨z, hz, rfl, rfl⟩, rfl, rfl, by simp [mx_eq], fun h => by simp only [mx_eq]; omega⟩
 | store x y k =>
  simp only [stepL, guard'] at hs ⊢
  split at hs
  ·rename_i b off tot hp
   try simp only [hp]
   simp only [Option.bind_eq_some_iff] at hs ⊢
   obtain ⟨cs, hcs, hs⟩ := hs
   split at hs
   ·rename_i hk
    simp only [Option.bind_eq_some_iff, Option.some.injEq, Prod.mk.injEq] at hs
    obtain ⟨s1, hw, rfl, rfl⟩ := hs
    obtain ⟨s0, k1, k2⟩ := wrt_base (W0 := W0) hN hw
    exact ⟨s0, ⟨cs, hcs, by rw [if_pos hk, k1]; rfl⟩, k2⟩
   ·cases hs
  ·cases hs
 | mks x z ty b =>
  simp only [stepL, Option.bind_eq_some_iff, guard'] at hs ⊢
  obtain ⟨l, hl, hs⟩ := hs
  split at hs
  ·rename_i hc
   injection hs with hs
   injection hs with h1 h2
   subst h1; subst h2
   exact ⟨⟨st.env, st.mem ++ [⟨rep l.toNat z, ty, z.length, true⟩], mx 0 (refsL z), W0⟩, ⟨l, hl, by rw [if_pos hc]⟩, rfl, rfl, by simp [mx_eq], fun h => by simp only [mx_eq]; omega⟩
  ·cases hs
 | lit k esz z ps ty =>
  simp only [stepL, guard'] at hs ⊢
  split at hs
  ·rename_i hc
   simp only [Option.bind_eq_some_iff] at hs ⊢
   obtain ⟨cs, hcs, hs⟩ := hs
   split at hs
   ·rename_i hc2
    injection hs with hs
    injection hs with h1 h2
    subst h1; subst h2
    refine ⟨⟨st.env, st.mem ++ [⟨cs, ty, esz, true⟩], mx 0 (refsL cs), W0⟩, by rw [if_pos hc, hcs]; simp only [Option.bind_some]; rw [if_pos hc2], rfl, rfl, by simp [mx_eq], fun h => by simp only [mx_eq]; omega⟩
   ·cases hs
  ·cases hs
 | call f l => exact kall f _ hs
 | callv x l =>
  simp only [stepL] at hs ⊢
  split at hs
  ·rename_i f hx; (try simp only [hx]); exact kall f _ hs
  ·rename_i f ns hx; (try simp only [hx]); exact kall f _ hs
  ·rename_i f b off tot hx; (try simp only [hx]); exact kall f _ hs
  ·cases hs
 | app s x ty esz bytes =>
  simp only [stepL, guard'] at hs ⊢
  simp only [Option.bind_eq_some_iff] at hs ⊢
  obtain ⟨p, hp, hs⟩ := hs
  split at hs
  ·rename_i hx
   try simp only [hx]
   split at hs
   ·rename_i h0
    injection hs with hs
    injection hs with h1 h2
    subst h1; subst h2
    exact ⟨⟨st.env, st.mem, 0, W0⟩, ⟨p, hp, by rw [if_pos h0]⟩, rfl, rfl, by simp [mx_eq], fun h => by simp only [mx_eq]; omega⟩
   ·rename_i h0
    split at hs
    ·rename_i hc
     injection hs with hs
     injection hs with h1 h2
     subst h1; subst h2
     exact ⟨⟨st.env, st.mem ++ [⟨p.2, ty, esz, true⟩], mx 0 (refsL p.2), W0⟩, ⟨p, hp, by rw [if_neg h0, if_pos hc]⟩, rfl, rfl, by simp [mx_eq], fun h => by simp only [mx_eq]; omega⟩
    ·cases hs
  ·rename_i b off len tot hx
   try simp only [hx]
   simp only [Option.bind_eq_some_iff] at hs
   obtain ⟨blk, hb, hs⟩ := hs
   split at hs
   ·rename_i hc
    injection hs with hs
    injection hs with h1 h2
    subst h1; subst h2
    exact ⟨⟨st.env, st.mem.set b { blk with cs := blk.cs ++ p.2 }, mx 0 (refsL p.2), mx W0 (N - b)⟩, ⟨p, hp, by rw [hb, Option.bind_some, if_pos hc]⟩, rfl, rfl, by simp [mx_eq], fun h => by simp only [mx_eq]; omega⟩
   ·cases hs
  ·cases hs
 | clr x z =>
  simp only [stepL] at hs ⊢
  split at hs
  ·rename_i hx
   try simp only [hx]
   injection hs with hs
   injection hs with h1 h2
   subst h1; subst h2
   exact ⟨⟨st.env, st.mem, 0, W0⟩, rfl, rfl, rfl, by simp [mx_eq], fun h => by simp only [mx_eq]; omega⟩
  ·rename_i b off k tot hx
   try simp only [hx]
   simp only [Option.bind_eq_some_iff] at hs ⊢
   obtain ⟨blk, hb, hs⟩ := hs
   split at hs
   ·rename_i h0
    injection hs with hs
    injection hs with h1 h2
    subst h1; subst h2
    exact ⟨⟨st.env, st.mem, 0, W0⟩, ⟨blk, hb, by rw [if_pos h0]⟩, rfl, rfl, by simp [mx_eq], fun h => by simp only [mx_eq]; omega⟩
   ·rename_i h0
    simp only [Option.bind_eq_some_iff, Option.some.injEq, Prod.mk.injEq] at hs
    obtain ⟨s1, hw, rfl, rfl⟩ := hs
    obtain ⟨s0, k1, k2⟩ := wrt_base (W0 := W0) hN hw
    exact ⟨s0, ⟨blk, hb, by rw [if_neg h0, k1]; rfl⟩, k2⟩
  ·cases hs
 | _ => exact quiet hs fun _ _ => rfl
theorem stepE_base {n0 N W0 : Nat} {st st1 : St} {o : EOp} {v : V} (hN : n0 ≤ N) (hm : N ≤ st.mem.length) (hs : stepE call n0 n o st = some (v, st1)) :
  ∃ s0, stepE call N n o ⟨st.env, st.mem, 0, W0⟩ = some (v, s0) ∧ s0.mem = st1.mem ∧ s0.env = st1.env ∧ st1.esc = mx st.esc s0.esc ∧ (W0 - (N - n0) ≤ st.wr → st1.wr = mx st.wr (s0.wr - (N - n0))) := by
 unfold stepE at hs ⊢
 split
 ·rename_i hmk
  rw [if_pos hmk] at hs
  simp only [Option.bind_eq_some_iff] at hs
  obtain ⟨r, hr, hs⟩ := hs
  have key : ∃ blk e, r.2 = { st with mem := [blk], esc := mx st.esc e } ∧ stepL call N { (⟨st.env, st.mem, 0, W0⟩ : St) with mem := [] } o.op.i = some (r.1, ⟨st.env, [blk], mx 0 e, W0⟩) := by
   cases hi : o.op.i with
   | alloc z ty =>
    rw [hi] at hr
    simp only [stepL, Option.some.injEq] at hr
    subst hr
    exact ⟨_, _, rfl, rfl⟩
   | box x ty =>
    rw [hi] at hr
    simp only [stepL, Option.bind_eq_some_iff, Option.some.injEq] at hr
    obtain ⟨z, hz, rfl⟩ := hr
    exact ⟨_, _, rfl, by simp only [stepL, hz, Option.bind_some]; rfl⟩
   | mks k z ty bytes =>
    rw [hi] at hr
    simp only [stepL, Option.bind_eq_some_iff, guard'] at hr
    obtain ⟨l, hl, hr⟩ := hr
    split at hr
    ·rename_i hc
     injection hr with hr
     subst hr
     exact ⟨_, _, rfl, by simp only [stepL, hl, Option.bind_some, guard', if_pos hc]; rfl⟩
    ·cases hr
   | lit k esz z ps ty =>
    rw [hi] at hr
    simp only [stepL, guard'] at hr
    split at hr
    ·rename_i hc
     simp only [Option.bind_eq_some_iff] at hr
     obtain ⟨cs, hcs, hr⟩ := hr
     split at hr
     ·rename_i hc2
      injection hr with hr
      subst hr
      exact ⟨_, _, rfl, by simp only [stepL, hcs, Option.bind_some, guard', if_pos hc, if_pos hc2]; rfl⟩
     ·cases hr
    ·cases hr
   | _ => rw [hi] at hmk; cases hmk
  obtain ⟨blk, e, k1, k2⟩ := key
  rw [k2, Option.bind_some]
  simp only [place, k1, guard'] at hs ⊢
  split at hs
  ·rename_i x1 o1 t1 hr1
   try simp only [hr1]
   split at hs
   ·rename_i hd
    injection hs with hs
    injection hs with h1 h2
    subst h1; subst h2
    exact ⟨⟨st.env, st.mem.set (n + o.p) blk, mx 0 e, W0⟩, by rw [if_pos hd], rfl, rfl, by simp [mx_eq], fun h => by simp only [mx_eq]; omega⟩
   ·cases hs
  ·rename_i x1 o1 l1 t1 hr1
   try simp only [hr1]
   split at hs
   ·rename_i hd
    injection hs with hs
    injection hs with h1 h2
    subst h1; subst h2
    exact ⟨⟨st.env, st.mem.set (n + o.p) blk, mx 0 e, W0⟩, by rw [if_pos hd], rfl, rfl, by simp [mx_eq], fun h => by simp only [mx_eq]; omega⟩
   ·cases hs
  ·cases hs
 ·rename_i hmk
  rw [if_neg hmk] at hs
  split
  ·rename_i hml
   rw [if_pos hml] at hs
   have pure : ∀ (args : List V) (r : Ret), pureC st args r = some (v, st1) → ∃ s0, pureC (⟨st.env, st.mem, 0, W0⟩ : St) args r = some (v, s0) ∧ s0.mem = st1.mem ∧ s0.env = st1.env ∧ st1.esc = mx st.esc s0.esc ∧ (W0 - (N - n0) ≤ st.wr → st1.wr = mx st.wr (s0.wr - (N - n0))) := by
    intro args r h
    unfold pureC at h ⊢
    split at h
    ·rename_i hq
     injection h with h
     injection h with h1 h2
     subst h1; subst h2
     exact ⟨⟨st.env, st.mem, 0, W0⟩, by rw [if_pos hq], rfl, rfl, by simp [mx_eq], fun h => by simp only [mx_eq]; omega⟩
    ·cases h
   split at hs
   ·simp only [Option.bind_eq_some_iff] at hs
    obtain ⟨r, hr, hs⟩ := hs
    obtain ⟨s0, k1, k2⟩ := pure _ _ hs
    exact ⟨s0, by simp only [hr, Option.bind_some]; exact k1, k2⟩
   ·split at hs
    ·rename_i f hf
     simp only [Option.bind_eq_some_iff] at hs
     obtain ⟨r, hr, hs⟩ := hs
     obtain ⟨s0, k1, k2⟩ := pure _ _ hs
     exact ⟨s0, by simp only [hf, hr, Option.bind_some]; exact k1, k2⟩
    ·cases hs
   ·cases hs
  ·rename_i hml
   rw [if_neg hml] at hs
   split at hs
   ·cases hs
   ·rename_i hn
    rw [if_neg hn]
    exact stepL_base hN hm hs
theorem MR.wider (h : MR base w0 ι0 m0 w ι m e wr) {wr' : Nat} (hw : wr ≤ wr') : MR base w0 ι0 m0 w ι m e wr' where
 sim := h.sim
 evo := h.evo
 fr := h.fr
 fresh := h.fresh
 bel := ⟨fun b hb => h.bel.1 b (by omega), fun g hg hn => h.bel.2 g hg fun b blk hb => hn b blk (by omega)⟩
 refs0 := h.refs0
 esc := h.esc
theorem stepE_soundK (hC : CallOk P call) (h : SR P base nt w0 ι0 m0 w ι st a) {e : EOp} (hn : m0.length ≤ n) (hl : n ≤ st.mem.length) (ht : trI P o.op = some e.op.i) {v : V} {st' : St} (hs : stepE call m0.length n e st = some (v, st')) {K : Act → World → Prop} {Q : Exit → Act → World → Prop}
  (hK : ∀ w' ι' r, VR w' ι' st'.mem v r → MR base w0 ι0 m0 w' ι' st'.mem st'.esc st'.wr → Evo w ι st.mem w' ι' st'.mem → (Fr w ι st.mem w' ∧ Fresh w ι st.mem ι' st'.mem) → K (a.put o.dst r) w') : o.wp P a w K Q := by
 obtain ⟨s0, k1, k2, k3, k4, k5⟩ := stepE_base (N := st.mem.length) (W0 := st.mem.length - n) h.mem.evo.len (Nat.le_refl _) hs
 have k5 := k5 (by omega)
 have h0 : SR P base nt w ι st.mem w ι ⟨st.env, st.mem, 0, st.mem.length - n⟩ a := ⟨(MR.start h.mem.sim).wider (Nat.zero_le _), h.env, h.defers, h.size⟩
 refine stepE_sound hC h0 (by show st.mem.length - (st.mem.length - n) ≤ n; omega) ht k1 fun w' ι' r hv hm hev => ?_
 have hm' := MR.called (ret := ⟨v, s0.mem, s0.esc, s0.wr⟩) h.mem hm
 rw [k2] at hv hev
 refine hK w' ι' r hv ?_ hev ⟨hm.fr, by have := hm.fresh; rwa [k2] at this⟩
 rw [k4, k5, ← k2]
 exact hm'
end
end Go.Proofs.YtfbeplbcaanimaaGreat
set_option linter.unusedVariables false
set_option linter.unusedSimpArgs false
namespace Go.Proofs.YtfbeplbcaanimaaGreat
open Go.RowKit
section
variable {P : Program} {base nt : Nat} {w0 w w' : World} {ι0 ι ι' ι1 : Nat → Nat × Nat} {m0 m m' : List Blk} {a : Act} {o : Oper} {st : St} {wr : Nat}
 {call : FuncId → List V → List Blk → Option Ret} {env : List (Nat × V)} {ops : Array Oper} {n : Nat}
theorem isAl_spec {o : IOp} (h : isAl o = true) : ∃ d z ty, o = ⟨some d, none, .alloc z ty⟩ ∧ z.all (·.hard) = true := by
 obtain ⟨dst, gd, i⟩ := o
 simp only [isAl, Bool.and_eq_true] at h
 obtain ⟨⟨h1, h2⟩, h3⟩ := h
 cases gd with
 | some _ => cases h1
 | none =>
  cases dst with
  | none => cases h2
  | some d =>
   cases i with
   | alloc z ty => exact ⟨d, z, ty, rfl, h3⟩
   | _ => cases h3
structure Shd (base : Nat) (w0 w : World) (ι : Nat → Nat × Nat) (m : List Blk) (a : Act) (e : EOp) (g : Nat) : Prop where
 lt : g < w.heap.size
 new : w0.heap.size ≤ g
 le : base ≤ g
 free : ∀ b blk, m[b]? = some blk → blk.own = true → (ι b).1 ≠ g
 op : ∃ d z ty rc, e.op = ⟨some d, none, .alloc z ty⟩ ∧ z.all (·.hard) = true ∧ w.heap[g]? = some (.cells rc ty (0, 0)) ∧ z.length ≤ rc.size ∧ (∀ (j : Nat) (c : C), z[j]? = some c → rc[j]? = some c.real) ∧ a.tmps[d]? = some (.pointer (some ⟨g, 0, none⟩))
theorem Shd.step {e : EOp} {g : Nat} (h : Shd base w0 w ι m a e g) (hf : Fr w ι m w') (hfr : Fresh w ι m ι' m') {dst : Option Nat} {r : Value} (hd : ∀ d, e.op.dst = some d → dst ≠ some d) : Shd base w0 w' ι' m' (a.put dst r) e g := by
 obtain ⟨d, z, ty, rc, h1, h2, h3, h4, h5, h6⟩ := h.op
 refine ⟨Nat.lt_of_lt_of_le h.lt hf.size, h.new, h.le, fun b blk hb ho he => ?_, d, z, ty, rc, h1, h2, ?_, h4, h5, ?_⟩
 ·obtain ⟨b', blk', k1, k2, k3⟩ := hfr b blk hb ho (by rw [he]; exact h.lt)
  exact h.free b' blk' k1 k2 (k3.trans he)
 ·rw [hf.blk g h.lt h.free]; exact h3
 ·have hne := hd d (by rw [h1])
  cases dst with
  | none => exact h6
  | some d' =>
   have : d' ≠ d := fun e => hne (by rw [e])
   simp only [Act.put]
   rw [Array.getElem?_setIfInBounds_ne this]
   exact h6
theorem put_same {d : Nat} {r : Value} (h : a.tmps[d]? = some r) : a.put (some d) r = a := by
 have : a.tmps.setIfInBounds d r = a.tmps := by
  apply Array.ext_getElem?
  intro j
  rw [Array.getElem?_setIfInBounds]
  split
  ·rename_i e
   subst e
   obtain ⟨hlt, _⟩ := Array.getElem?_eq_some_iff.1 h
   rw [if_pos hlt, h]
  ·rfl
 simp only [Act.put, this]
theorem evo_app {bb : Blk} (h : ∀ j, j < m.length → ι1 j = ι j) : Evo w ι m w ι1 (m ++ [bb]) := by
 intro b blk hb
 have hlt := lt_of_get hb
 exact ⟨blk, by rw [List.getElem?_append_left hlt]; exact hb, fun _ => ⟨rfl, rfl, Nat.le_refl _, fun _ => ⟨h b hlt, fun _ => rfl⟩⟩⟩
theorem Shd.flush {e : EOp} {g : Nat} (h : SR P base nt w0 ι0 m0 w ι st a) (hn : m0.length ≤ n) (hs : Shd base w0 w ι st.mem a e g) {v : V} {st1 : St} (hst : stepE call m0.length n e st = some (v, st1)) :
  ∃ ι', SR P base nt w0 ι0 m0 w ι' (put e.op.dst v st1) a ∧ ∀ e' g', g' ≠ g → Shd base w0 w ι st.mem a e' g' → Shd base w0 w ι' (put e.op.dst v st1).mem a e' g' := by
 obtain ⟨d, z, ty, rc, h1, h2, h3, h4, h5, h6⟩ := hs.op
 have hst' : ∃ o t, place (n + e.p) st (.c (.ptr 0 o t), { st with mem := [⟨z, ty, 0, true⟩], esc := mx st.esc (refsL z) }) = some (v, st1) ∧ o = 0 ∧ t = z.length := by
  unfold stepE at hst
  rw [h1] at hst
  exact ⟨0, z.length, hst, rfl, rfl⟩
 obtain ⟨_, _, hpl, rfl, rfl⟩ := hst'
 simp only [place, guard'] at hpl
 split at hpl
 ·rename_i hd
  injection hpl with hpl
  injection hpl with e1 e2
  subst e1; subst e2
  obtain ⟨ι1, hι1⟩ : ∃ f : Nat → Nat × Nat, f = fun j => if j = st.mem.length then (g, 0) else ι j := ⟨_, rfl⟩
  have hold : ∀ j, j < st.mem.length → ι1 j = ι j := fun j hj => by rw [hι1]; simp only; rw [if_neg (by omega)]
  have hnew : ι1 st.mem.length = (g, 0) := by rw [hι1]; simp
  have hev : Evo w ι st.mem w ι1 (st.mem ++ [⟨z, ty, 0, true⟩]) := evo_app hold
  have cut : ∀ b bb, (st.mem ++ [(⟨z, ty, 0, true⟩ : Blk)])[b]? = some bb → (b < st.mem.length ∧ st.mem[b]? = some bb) ∨ (b = st.mem.length ∧ bb = ⟨z, ty, 0, true⟩) := by
   intro b bb hb
   rw [get_append_one] at hb
   split at hb
   ·injection hb with hb; exact .inr ⟨by assumption, hb.symm⟩
   ·exact .inl ⟨lt_of_get hb, hb⟩
  have sim1 : Sim base w ι1 (st.mem ++ [⟨z, ty, 0, true⟩]) := by
   refine ⟨h.mem.sim.le, fun b bb hb ho => ?_, fun b bb hb ho hz => ?_, fun b bb hb ho hz => ?_, fun b b' bb bb' hb hb' ho ho' he => ?_⟩
   ·rcases cut b bb hb with ⟨hlt, hb⟩ | ⟨rfl, rfl⟩
    ·obtain ⟨k1, k2, rc', k3, k4, k5⟩ := h.mem.sim.own b bb hb ho
     rw [hold b hlt]
     exact ⟨k1, k2, rc', k3, k4, fun j c hj => let ⟨r, q1, q2, q3⟩ := k5 j c hj; ⟨r, q1, q2.evo hev, q3⟩⟩
    ·rw [hnew]
     refine ⟨hs.le, rfl, rc, h3, h4, fun j c hj => ?_⟩
     have hc : c.hard = true := List.all_eq_true.1 h2 c (List.mem_of_getElem? hj)
     exact ⟨c.real, h5 j c hj, C.hard_CR hc, C.hard_one hc⟩
   ·rcases cut b bb hb with ⟨hlt, hb⟩ | ⟨rfl, rfl⟩
    ·obtain ⟨k1, k2⟩ := h.mem.sim.ro b bb hb ho hz
     rw [hold b hlt]
     refine ⟨k1, fun j c hj => ?_⟩
     obtain ⟨r, q1, q2, q3⟩ := k2 j c hj
     refine ⟨r, ?_, q2.evo hev, q3⟩
     rw [← q1]
     unfold atA
     rw [hold b hlt]
    ·cases ho
   ·rcases cut b bb hb with ⟨hlt, hb⟩ | ⟨rfl, rfl⟩
    ·exact h.mem.sim.non b bb hb ho hz
    ·cases ho
   ·rcases cut b bb hb with ⟨hlt, hb⟩ | ⟨rfl, rfl⟩ <;> rcases cut b' bb' hb' with ⟨hlt', hb'⟩ | ⟨rfl, rfl⟩
    ·rw [hold b hlt, hold b' hlt'] at he
     exact h.mem.sim.inj b b' bb bb' hb hb' ho ho' he
    ·rw [hold b hlt, hnew] at he
     exact absurd he (hs.free b bb hb ho)
    ·rw [hnew, hold b' hlt'] at he
     exact absurd he.symm (hs.free b' bb' hb' ho')
    ·rfl
  have mr1 : MR base w0 ι0 m0 w ι1 (st.mem ++ [⟨z, ty, 0, true⟩]) (mx st.esc (refsL z)) st.wr := by
   refine ⟨sim1, h.mem.evo.trans hev, h.mem.fr, fun b bb hb ho hl => ?_, ⟨fun b hb => ?_, h.mem.bel.2⟩, h.mem.refs0, fun b bb c hb hc => ?_⟩
   ·rcases cut b bb hb with ⟨hlt, hb⟩ | ⟨rfl, rfl⟩
    ·rw [hold b hlt] at hl ⊢
     exact h.mem.fresh b bb hb ho hl
    ·rw [hnew] at hl
     have := hs.new
     simp only at hl
     omega
   ·have hlen := h.mem.evo.len
    rw [List.getElem?_append_left (by omega)]
    exact h.mem.bel.1 b hb
   ·rcases cut b bb hb with ⟨hlt, hb⟩ | ⟨rfl, rfl⟩
    ·rcases h.mem.esc b bb c hb hc with q | q
     ·exact .inl (by rw [mx_eq]; omega)
     ·exact .inr q
    ·exact .inl (refsL_le.1 (le_mx_r st.esc (refsL z)) c hc)
  obtain ⟨mr2, ev2⟩ := h.mem.move mr1 hev hd.1 (by omega) rfl hd.2
  have hq := lt_of_get (dead_get hd.1).choose_spec.1
  refine ⟨fun j => if j = n + e.p then ι1 st.mem.length else ι1 j, ?_, fun e' g' hg' hs' => ?_⟩
  ·have hv : VR w (fun j => if j = n + e.p then ι1 st.mem.length else ι1 j) (st.mem.set (n + e.p) ⟨z, ty, 0, true⟩) (.c (.ptr (n + e.p) 0 z.length)) (.pointer (some ⟨g, 0, none⟩)) :=
    .one (.c (.ptr rfl (blk := ⟨z, ty, 0, true⟩) (List.getElem?_set_self hq) (Nat.le_refl _) ⟨.inl rfl⟩ fun _ => by simp [atA, hnew]))
   have := h.put (dst := e.op.dst) (st' := { st with mem := st.mem.set (n + e.p) ⟨z, ty, 0, true⟩, esc := mx st.esc (refsL z) }) hv mr2 ev2 rfl fun d' hd' => by
    rw [h1] at hd'
    injection hd' with hd'
    subst hd'
    rw [← h.size]
    exact (Array.getElem?_eq_some_iff.1 h6).1
   have hap : a.put e.op.dst (.pointer (some ⟨g, 0, none⟩)) = a := by rw [h1]; exact put_same h6
   rw [hap] at this
   exact this
  ·refine ⟨hs'.lt, hs'.new, hs'.le, fun b bb hb ho he => ?_, hs'.op⟩
   have hb' : (st.mem.set (n + e.p) (⟨z, ty, 0, true⟩ : Blk))[b]? = some bb := by rw [h1] at hb; exact hb
   by_cases hbq : b = n + e.p
   ·subst hbq
    simp only [if_true, hnew] at he
    exact hg' he.symm
   ·rw [List.getElem?_set_ne (Ne.symm hbq)] at hb'
    simp only [if_neg hbq] at he
    rw [hold b (lt_of_get hb')] at he
    exact hs'.free b bb hb' ho he
 ·cases hpl
theorem wp_pend (h : SR P base nt w0 ι0 m0 w ι st a) {e : EOp} {d : Nat} {z : List C} {ty : TypeId} (hop : e.op = ⟨some d, none, .alloc z ty⟩) (hz : z.all (·.hard) = true) (ht : trI P o.op = some (.alloc z ty)) (ho : o.dst = some d) (hd : d < nt) {K : Act → World → Prop} {Q : Exit → Act → World → Prop}
  (hK : ∀ w' a', SR P base nt w0 ι0 m0 w' ι ⟨(d, .c .junk) :: st.env, st.mem, st.esc, st.wr⟩ a' → Shd base w0 w' ι st.mem a' e w.heap.size → (∀ e' g', e'.op.dst ≠ some d → Shd base w0 w ι st.mem a e' g' → Shd base w0 w' ι st.mem a' e' g' ∧ g' ≠ w.heap.size) → K a' w') : o.wp P a w K Q := by
 obtain ⟨hop', hz'⟩ := inv_alloc ht
 obtain ⟨v, hv, hr, _⟩ := zeroT_some hz'
 have hrun : (execOp a.eval o).run P w = .ok (.value (.pointer (some ⟨w.heap.size, 0, none⟩))) (w.alloc (.cells v.cells ty)) := by
  simp [execOp, hop', Instr.alloc, hv, newVar, newRow]
 have hB : Below w.heap.size w (w.alloc (.cells v.cells ty)) := ⟨rfl, rfl, rfl, by show w.heap.size ≤ (w.heap.push _).size; simp, fun k hk => Below.heap_alloc w _ k hk⟩
 unfold Oper.wp
 rw [hrun, Oper.upon_value, ho]
 have hdt : d < a.tmps.size := by rw [h.size]; exact hd
 have har := hr w ι st.mem
 have hfree : ∀ b blk, st.mem[b]? = some blk → blk.own = true → (ι b).1 ≠ w.heap.size := fun b blk hb ho he => by
  obtain ⟨_, _, rc, k3, _⟩ := h.mem.sim.own b blk hb ho
  have := (Array.getElem?_eq_some_iff.1 k3).1
  omega
 refine hK _ _ ⟨h.mem.later hB, ?_, h.defers, ?_⟩ ⟨?_, h.mem.fr.size, h.mem.sim.le, hfree, d, z, ty, v.cells, hop, hz, heap_alloc_new w _, ?_, fun j c hj => ?_, ?_⟩ fun e' g' hne hs' => ⟨?_, ?_⟩
 ·exact (h.env.below hB).put hdt (.one (.c (.junk _)))
 ·show (a.tmps.setIfInBounds d _).size = nt
  rw [Array.size_setIfInBounds]; exact h.size
 ·show w.heap.size < (w.heap.push _).size
  simp
 ·have := har.1
  simp only [Array.length_toList] at this
  omega
 ·obtain ⟨r, q1, q2, _⟩ := har.2 j c hj
  have hc : c.hard = true := List.all_eq_true.1 hz c (List.mem_of_getElem? hj)
  rw [← C.hard_eq hc q2, ← q1]
  simp
 ·show (a.tmps.setIfInBounds d _)[d]? = _
  rw [Array.getElem?_setIfInBounds_self_of_lt hdt]
 ·have := hs'.step (dst := some d) (r := .pointer (some ⟨w.heap.size, 0, none⟩)) (w' := w.alloc (.cells v.cells ty)) (ι' := ι) (m' := st.mem) ⟨rfl, rfl, rfl, hB.size, fun g hg _ => hB.block g hg⟩ (Fresh.refl _ _ _) fun d' hd' he => hne (by rw [hd', he])
  exact this
 ·have := hs'.lt
  omega
theorem looks_of {o : EOp} {env env2 : List (Nat × V)} (h : ∀ u, u ∈ o.op.looks → get env u = get env2 u) : Looks o env env2 := by
 refine ⟨fun x hx => ?_, fun g hg => ?_⟩
 ·cases x with
  | k v => rfl
  | t i => exact h i (by unfold IOp.looks; exact List.mem_append_left _ (List.mem_filterMap.2 ⟨Opd.t i, hx, rfl⟩))
 ·exact h g.1 (by unfold IOp.looks; exact List.mem_append_right _ (by rw [hg]; simp))
theorem execE_junk {n0 : Nat} {e : EOp} {B : List EOp} {d : Nat} (hd : e.op.dst = some d) (hl : e.op.looks = []) : ∀ (A : List EOp) (fs : List (Nat × Foot)) (st t : St) (env2 : List (Nat × V)), execE call n0 n (A ++ e :: B) fs st = some t → (∀ x ∈ A, apartI x.op e.op = true) →
  (∀ u, u ≠ d → get st.env u = get env2 u) → ∃ t', execE call n0 n (A ++ e :: B) fs (st.wenv env2) = some t' ∧ Eqv t t'
 | [], fs, st, t, env2, h, _, he => by
  rw [List.nil_append, execE, Option.bind_eq_some_iff] at h
  obtain ⟨⟨v, s1, X⟩, hg, h⟩ := h
  split at h
  ·rename_i hk
   obtain ⟨hsame, h⟩ := sameK_some.1 h
   have hlk : Looks e st.env env2 := looks_of fun u hu => by rw [hl] at hu; cases hu
   have h2 := stepG_env hlk hg
   have e2 : Eqv (put e.op.dst v s1) (put e.op.dst v (s1.wenv env2)) := by
    rw [hd]
    refine ⟨rfl, rfl, rfl, fun u => ?_⟩
    rw [get_put, get_put, stepG_keeps hg]
    split
    ·rfl
    ·rename_i hu
     exact he u fun hc => hu (by rw [hc])
   obtain ⟨t', q1, q2⟩ := execE_mono B _ ((e.ix, recI e.op.i e.ml st.mem s1.mem X) :: fs) _ _ t h (fun p hp => hp) e2
   refine ⟨t', ?_, q2⟩
   rw [List.nil_append, execE, h2, Option.bind_some]
   rw [if_pos hk]
   exact sameK_some.2 ⟨hsame, q1⟩
  ·cases h
 | x :: A, fs, st, t, env2, h, hp, he => by
  rw [List.cons_append, execE, Option.bind_eq_some_iff] at h
  obtain ⟨⟨v, s1, X⟩, hg, h⟩ := h
  split at h
  ·rename_i hk
   obtain ⟨hsame, h⟩ := sameK_some.1 h
   have hap := (apart_spec (hp x (by simp))).2.2
   have hlk : Looks x st.env env2 := looks_of fun u hu => he u fun hc => hap d hd (hc ▸ hu)
   have h2 := stepG_env hlk hg
   have e2 : ∀ u, u ≠ d → get (put x.op.dst v s1).env u = get (put x.op.dst v (s1.wenv env2)).env u := fun u hu => by
    rw [get_put, get_put, stepG_keeps hg]
    split
    ·rfl
    ·exact he u hu
   obtain ⟨t', q1, q2⟩ := execE_junk hd hl A _ _ t _ h (fun y hy => hp y (by simp [hy])) e2
   refine ⟨t', ?_, q2⟩
   rw [List.cons_append, execE, h2, Option.bind_some]
   rw [if_pos hk]
   refine sameK_some.2 ⟨hsame, ?_⟩
   have : (put x.op.dst v s1).wenv (put x.op.dst v (s1.wenv env2)).env = put x.op.dst v (s1.wenv env2) := by
    cases x.op.dst <;> rfl
   rw [this] at q1
   exact q1
  ·cases h
end
end Go.Proofs.YtfbeplbcaanimaaGreat
set_option linter.unusedVariables false
set_option linter.unusedSimpArgs false
namespace Go.Proofs.YtfbeplbcaanimaaGreat
open Go.RowKit
section
variable {P : Program} {base nt : Nat} {w0 w w' : World} {ι0 ι ι' ι1 : Nat → Nat × Nat} {m0 m m' : List Blk} {a : Act} {o : Oper} {st : St} {wr : Nat}
 {call : FuncId → List V → List Blk → Option Ret} {env : List (Nat × V)} {ops : Array Oper} {n : Nat}
def todoP (listed : Array Bool) (PS : List Nat) (all : List EOp) : List EOp := all.filter fun e => !(listed.getD e.ix true) || PS.contains e.ix
theorem todoP_nil (listed : Array Bool) (all : List EOp) : todoP listed [] all = todo listed all := by
 unfold todoP todo
 congr 1
 funext e
 simp
structure Wait (base : Nat) (w0 w : World) (ι : Nat → Nat × Nat) (m : List Blk) (a : Act) (all : List EOp) (listed : Array Bool) (PS : List Nat) (G : Nat → Nat) : Prop where
 one : ∀ i ∈ PS, listed.getD i false = true ∧ ∃ e, all[i]? = some e ∧ Shd base w0 w ι m a e (G i)
 inj : ∀ i ∈ PS, ∀ j ∈ PS, i ≠ j → G i ≠ G j
def Held (R : List (List Nat)) (all : List EOp) (listed : Array Bool) (i : Nat) : Prop := ∃ c ∈ todo listed all, ∃ e, all[i]? = some e ∧ c.ix < i ∧ pendE c e = true ∧ ∀ d, d < all.length → inR R i d = true → inR R c.ix d = true
theorem shd_cls {base : Nat} {e : EOp} {g : Nat} (h : Shd base w0 w ι m a e g) : e.cls = 2 := by
 obtain ⟨d, z, ty, rc, h1, _⟩ := h.op
 unfold EOp.cls
 rw [h1]
 simp [I.cls]
theorem pend_cls {x y : EOp} (h : pendE x y = true) : x.cls = 3 ∧ isAl y.op = true ∧ apartI x.op y.op = true := by
 unfold pendE at h
 simp only [Bool.and_eq_true, beq_iff_eq] at h
 exact ⟨h.1.1, h.1.2, h.2⟩
theorem pair_apart {x y : EOp} (h : pairE x y = true) : apartI x.op y.op = true := by
 unfold pairE at h
 simp only [Bool.and_eq_true] at h
 exact h.1.1
theorem getD_ff {listed : Array Bool} {j : Nat} (h : listed.getD j false = true) : listed.getD j true = true := by
 simp only [Array.getD_eq_getD_getElem?] at h ⊢
 cases hq : listed[j]? with
 | none => rw [hq] at h; cases h
 | some b => rw [hq] at h; exact h
section
variable {R : List (List Nat)} {all : List EOp} (ht : TrR P nt ops R all)
include ht
theorem todo_get {listed : Array Bool} {c : EOp} (hc : c ∈ todo listed all) : ∃ o, ops[c.ix]? = some o ∧ all[c.ix]? = some c ∧ listed.getD c.ix true = false := by
 obtain ⟨h1, h2⟩ := List.mem_filter.1 hc
 obtain ⟨k, hk⟩ := List.getElem?_of_mem h1
 have hix := ht.ix k c hk
 have hlt : k < ops.size := by rw [← ht.len]; exact (List.getElem?_eq_some_iff.1 hk).1
 rw [hix]
 exact ⟨ops[k], by simp [hlt], hk, by rw [hix] at h2; simpa using h2⟩
theorem held_dep {listed : Array Bool} (hcl : Closed ops listed) {i k : Nat} (hh : Held R all listed i) {o : Oper} (ho : ops[k]? = some o) (hall : ∀ e ∈ o.after, Region.binds .any e = true → listed.getD e.on false = true) (hr : inR R i k = true) : False := by
 obtain ⟨c, hc, e, h1, h2, h3, h4⟩ := hh
 have hk : k < all.length := by rw [ht.len]; exact (Array.getElem?_eq_some_iff.1 ho).1
 have := reach_listed ht.reach hcl k o ho hall c.ix (h4 k hk hr)
 obtain ⟨_, _, _, h5⟩ := todo_get ht hc
 rw [getD_ff this] at h5
 cases h5
theorem listed_deps {listed : Array Bool} (hcl : Closed ops listed) {i : Nat} (hi : listed.getD i false = true) {e : EOp} (he : all[i]? = some e) : ∃ o, ops[i]? = some o ∧ ∀ e ∈ o.after, Region.binds .any e = true → listed.getD e.on false = true := by
 have hlt : i < ops.size := by rw [← ht.len]; exact (List.getElem?_eq_some_iff.1 he).1
 exact ⟨ops[i], by simp [hlt], hcl i ops[i] (by simp [hlt]) hi⟩
end
theorem split_at {all : List EOp} {k : Nat} {e : EOp} (h : all[k]? = some e) : all = all.take k ++ e :: all.drop (k + 1) := by
 have hlt := (List.getElem?_eq_some_iff.1 h).1
 have : all[k] = e := by simpa [hlt] using h
 rw [← this, ← List.drop_eq_getElem_cons hlt, List.take_append_drop]
theorem mem_take {all : List EOp} {k : Nat} {x : EOp} (h : x ∈ all.take k) : ∃ j, j < k ∧ all[j]? = some x := by
 obtain ⟨j, hj⟩ := List.getElem?_of_mem h
 rw [List.getElem?_take] at hj
 split at hj
 ·exact ⟨j, by assumption, hj⟩
 ·cases hj
theorem mem_drop {all : List EOp} {k : Nat} {x : EOp} (h : x ∈ all.drop (k + 1)) : ∃ j, k < j ∧ all[j]? = some x := by
 obtain ⟨j, hj⟩ := List.getElem?_of_mem h
 rw [List.getElem?_drop] at hj
 exact ⟨k + 1 + j, by omega, hj⟩
theorem regE_sound (hC : CallOk P call) {R : List (List Nat)} {all : List EOp} (ht : TrR P nt ops R all) (hn : m0.length ≤ n) {Q : Exit → Act → World → Prop} : ∀ (fuel : Nat) (listed : Array Bool) (PS : List Nat) (G : Nat → Nat) (w : World) (ι : Nat → Nat × Nat) (a : Act) (st t : St), listed.size = ops.size → Closed ops listed → (todo listed all).length ≤ fuel →
  n ≤ st.mem.length → SR P base nt w0 ι0 m0 w ι st a → Wait base w0 w ι st.mem a all listed PS G → execE call m0.length n (todoP listed PS all) [] st = some t → (∀ w' ι' a' t', SR P base nt w0 ι0 m0 w' ι' t' a' → Eqv t t' → Q .normal a' w') → wpAny P .any ops Q fuel listed a w := by
 -- what waits and is not held up is put into its place
 have settle : ∀ (fuel : Nat) (listed : Array Bool) (w : World) (a : Act) (t : St), Closed ops listed →
   (∀ (PS : List Nat) (G : Nat → Nat) (ι : Nat → Nat × Nat) (st t' : St), (∀ i ∈ PS, Held R all listed i) → n ≤ st.mem.length → SR P base nt w0 ι0 m0 w ι st a → Wait base w0 w ι st.mem a all listed PS G → execE call m0.length n (todoP listed PS all) [] st = some t' → Eqv t t' → wpAny P .any ops Q fuel listed a w) →
   ∀ (k : Nat) (PS : List Nat) (G : Nat → Nat) (ι : Nat → Nat × Nat) (st t' : St), PS.length ≤ k → n ≤ st.mem.length → SR P base nt w0 ι0 m0 w ι st a → Wait base w0 w ι st.mem a all listed PS G → execE call m0.length n (todoP listed PS all) [] st = some t' → Eqv t t' → wpAny P .any ops Q fuel listed a w := by
  intro fuel listed w a t hcl hgo k
  induction k with
  | zero =>
   intro PS G ι st t' hk hl h hw hs he
   obtain rfl : PS = [] := List.length_eq_zero_iff.1 (by omega)
   exact hgo [] G ι st t' (fun i hi => by cases hi) hl h hw hs he
  | succ k ih =>
   intro PS G ι st t' hk hl h hw hs he
   by_cases hall : ∀ i ∈ PS, Held R all listed i
   ·exact hgo PS G ι st t' hall hl h hw hs he
   ·have hex : ∃ i, i ∈ PS ∧ ¬ Held R all listed i := by
     apply Classical.byContradiction
     intro hc
     exact hall fun i hi => Classical.byContradiction fun hh => hc ⟨i, hi, hh⟩
    obtain ⟨i, ⟨hi, hnh⟩, hmin⟩ : ∃ i, (i ∈ PS ∧ ¬ Held R all listed i) ∧ ∀ j, j < i → ¬ (j ∈ PS ∧ ¬ Held R all listed j) := by
     have key : ∀ N i, i ≤ N → i ∈ PS ∧ ¬ Held R all listed i → ∃ i, (i ∈ PS ∧ ¬ Held R all listed i) ∧ ∀ j, j < i → ¬ (j ∈ PS ∧ ¬ Held R all listed j) := by
      intro N
      induction N with
      | zero =>
       intro i hi h
       exact ⟨i, h, fun j hj => by omega⟩
      | succ N ihN =>
       intro i hi h
       by_cases hc : ∃ j, j < i ∧ (j ∈ PS ∧ ¬ Held R all listed j)
       ·obtain ⟨j, h1, h2⟩ := hc
        exact ihN j (by omega) h2
       ·exact ⟨i, h, fun j hj hp => hc ⟨j, hj, hp⟩⟩
     obtain ⟨i, hi⟩ := hex
     exact key i i (Nat.le_refl _) hi
    obtain ⟨hli, e, he1, hshd⟩ := hw.one i hi
    have hix := ht.ix i e he1
    obtain ⟨oi, hoi, hdi⟩ := listed_deps ht hcl hli he1
    have hsplit := split_at he1
    have hsp : todoP listed PS all = (all.take i).filter (fun e => !(listed.getD e.ix true) || PS.contains e.ix) ++ e :: (all.drop (i + 1)).filter (fun e => !(listed.getD e.ix true) || PS.contains e.ix) := by
     unfold todoP
     conv => lhs; rw [hsplit]
     rw [List.filter_append, List.filter_cons, if_pos (by rw [hix]; simp [hi])]
    have hpair : ∀ x ∈ (all.take i).filter (fun e => !(listed.getD e.ix true) || PS.contains e.ix), pairE x e = true := by
     intro x hx
     obtain ⟨hx1, hx2⟩ := List.mem_filter.1 hx
     obtain ⟨j, hji, hj⟩ := mem_take hx1
     have hjx := ht.ix j x hj
     rw [hjx] at hx2
     have hjl : listed.getD j true = false ∨ j ∈ PS := by
      rcases Bool.or_eq_true_iff.1 hx2 with q | q
      ·exact .inl (by simpa using q)
      ·exact .inr (by simpa using q)
     rcases ht.pair j i x e hji hj he1 with hq | hq | ⟨hq, hdep⟩
     ·exfalso
      have hjt := reach_listed ht.reach hcl i oi hoi hdi j hq
      rcases hjl with q | q
      ·rw [getD_ff hjt] at q; cases q
      ·have hh : Held R all listed j := Classical.byContradiction fun hc => hmin j hji ⟨q, hc⟩
       exact held_dep ht hcl hh hoi hdi hq
     ·exact hq
     ·exfalso
      rcases hjl with q | q
      ·refine hnh ⟨x, List.mem_filter.2 ⟨List.mem_of_getElem? hj, by rw [hjx, q]; rfl⟩, e, he1, by rw [hjx]; exact hji, hq, by rw [hjx]; exact hdep⟩
      ·obtain ⟨_, e2, k1, k2⟩ := hw.one j q
       rw [hj] at k1
       injection k1 with k1
       subst k1
       have := (pend_cls hq).1
       rw [shd_cls k2] at this
       cases this
    rw [hsp] at hs
    obtain ⟨t1, hs1, he1'⟩ := bubble _ _ _ _ hs hpair
    rw [execE, Option.bind_eq_some_iff] at hs1
    obtain ⟨⟨v, s1, X⟩, hgs, hs1⟩ := hs1
    split at hs1
    ·obtain ⟨t2, hs2, he2⟩ := execE_mono _ _ [] _ (put e.op.dst v s1) t1 (sameK_some.1 hs1).2 (by simp) (Eqv.refl _)
     have hstep : stepE call m0.length n e st = some (v, s1) := by
      obtain ⟨d, z, ty, rc, h1, _⟩ := hshd.op
      unfold stepG at hgs
      rw [h1] at hgs
      simp only [wantB, Option.bind_some, if_true, Option.bind_eq_some_iff, Option.some.injEq, Prod.mk.injEq] at hgs
      obtain ⟨r, hr, rfl, rfl, _⟩ := hgs
      exact hr
     obtain ⟨ι', hsr, hoth⟩ := hshd.flush h hn hstep
     have hlen' : n ≤ (put e.op.dst v s1).mem.length := by
      have : (put e.op.dst v s1).mem.length = st.mem.length := by
       obtain ⟨d, z, ty, rc, h1, _⟩ := hshd.op
       have hm : (put e.op.dst v s1).mem = s1.mem := by cases e.op.dst <;> rfl
       rw [hm]
       have hpl : ∃ o t, place (n + e.p) st (.c (.ptr 0 o t), { st with mem := [⟨z, ty, 0, true⟩], esc := mx st.esc (refsL z) }) = some (v, s1) := by
        unfold stepE at hstep
        rw [h1] at hstep
        exact ⟨0, z.length, hstep⟩
       obtain ⟨_, _, hpl⟩ := hpl
       simp only [place, guard'] at hpl
       split at hpl
       ·injection hpl with hpl
        injection hpl with q1 q2
        subst q2
        simp
       ·cases hpl
      omega
     have hfil : (all.take i).filter (fun e => !(listed.getD e.ix true) || PS.contains e.ix) ++ (all.drop (i + 1)).filter (fun e => !(listed.getD e.ix true) || PS.contains e.ix) = todoP listed (PS.filter (· != i)) all := by
      unfold todoP
      conv => rhs; rw [hsplit]
      rw [List.filter_append, List.filter_cons, if_neg (by rw [hix, getD_ff hli]; simp)]
      congr 1
      ·refine List.filter_congr fun x hx => ?_
       obtain ⟨j, hji, hj⟩ := mem_take hx
       rw [ht.ix j x hj]
       congr 1
       have : j ≠ i := by omega
       simp [this]
      ·refine List.filter_congr fun x hx => ?_
       obtain ⟨j, hji, hj⟩ := mem_drop hx
       rw [ht.ix j x hj]
       congr 1
       have : j ≠ i := by omega
       simp [this]
     rw [hfil] at hs2
     refine ih (PS.filter (· != i)) G ι' _ t2 ?_ hlen' hsr ⟨fun j hj => ?_, fun j hj j' hj' => ?_⟩ hs2 ((he.trans he1').trans he2)
     ·have : (PS.filter (· != i)).length < PS.length := by
       rw [List.length_filter_lt_length_iff_exists]
       exact ⟨i, hi, by simp⟩
      omega
     ·obtain ⟨q1, q2⟩ := List.mem_filter.1 hj
      have hji : j ≠ i := by simpa using q2
      obtain ⟨k1, e2, k2, k3⟩ := hw.one j q1
      exact ⟨k1, e2, k2, hoth e2 (G j) (hw.inj j q1 i hi hji) k3⟩
     ·exact hw.inj j (List.mem_filter.1 hj).1 j' (List.mem_filter.1 hj').1
    ·cases hs1
 intro fuel
 have mem_todo : ∀ (listed : Array Bool) (k : Nat) (o : Oper), ops[k]? = some o → listed.getD k true = false → ∃ e, all[k]? = some e ∧ e ∈ todo listed all := by
  intro listed k o ho hl
  obtain ⟨e, h1, _⟩ := ht.op k o ho
  exact ⟨e, h1, List.mem_filter.2 ⟨List.mem_of_getElem? h1, by rw [ht.ix k e h1, hl]; rfl⟩⟩
 have done : ∀ (listed : Array Bool) (PS : List Nat) (w : World) (ι : Nat → Nat × Nat) (a : Act) (st t : St), listed.size = ops.size → (∀ i ∈ PS, Held R all listed i) → SR P base nt w0 ι0 m0 w ι st a → execE call m0.length n (todoP listed PS all) [] st = some t → (∀ w' ι' a' t', SR P base nt w0 ι0 m0 w' ι' t' a' → Eqv t t' → Q .normal a' w') → Region.ready .any ops listed = [] → Q .normal a w := by
  intro listed PS w ι a st t hsz hh h hs hQ hr
  have hnil : todo listed all = [] := by
   cases hl : todo listed all with
   | nil => rfl
   | cons e l =>
    exfalso
    have he : e ∈ todo listed all := by rw [hl]; simp
    obtain ⟨h1, h2⟩ := List.mem_filter.1 he
    obtain ⟨k, hk⟩ := List.getElem?_of_mem h1
    have hix := ht.ix k e hk
    have hlt : k < ops.size := by rw [← ht.len]; exact (List.getElem?_eq_some_iff.1 hk).1
    exact ready_some ht hsz k hlt (by rw [hix] at h2; simpa using h2) hr
  obtain rfl : PS = [] := by
   cases PS with
   | nil => rfl
   | cons i r =>
    exfalso
    obtain ⟨c, hc, _⟩ := hh i (by simp)
    rw [hnil] at hc
    cases hc
  rw [todoP_nil, hnil, execE, Option.some.injEq] at hs
  subst hs
  exact hQ w ι a st h (Eqv.refl _)
 induction fuel with
 | zero =>
  intro listed PS G w ι a st t hsz hcl hle hlen h hw hs hQ
  have hr : Region.ready .any ops listed = [] := by
   cases hl : Region.ready .any ops listed with
   | nil => rfl
   | cons k l =>
    exfalso
    have hk : k ∈ Region.ready .any ops listed := by rw [hl]; simp
    obtain ⟨h1, o, h2, _⟩ := mem_ready.1 hk
    obtain ⟨e, _, h4⟩ := mem_todo listed k o h2 h1
    have := List.length_pos_of_mem h4
    omega
  refine settle 0 listed w a t hcl (fun PS G ι st t' hh hlen h hw hs he => ?_) PS.length PS G ι st t (Nat.le_refl _) hlen h hw hs (Eqv.refl _)
  exact ⟨hr, done listed PS w ι a st t' hsz hh h hs (fun w' ι' a' t2 h2 he2 => hQ w' ι' a' t2 h2 (he.trans he2)) hr⟩
 | succ fuel ih =>
  intro listed PS G w ι a st t hsz hcl hle hlen h hw hs hQ
  refine settle (fuel + 1) listed w a t hcl (fun PS G ι st t' hh hlen h hw hs he => ?_) PS.length PS G ι st t (Nat.le_refl _) hlen h hw hs (Eqv.refl _)
  have hQ : ∀ w' ι' a' t2, SR P base nt w0 ι0 m0 w' ι' t2 a' → Eqv t' t2 → Q .normal a' w' := fun w' ι' a' t2 h2 he2 => hQ w' ι' a' t2 h2 (he.trans he2)
  refine ⟨fun hr => done listed PS w ι a st t' hsz hh h hs hQ hr, fun k hk => ?_⟩
  obtain ⟨hl, o, ho, hall⟩ := mem_ready.1 hk
  obtain ⟨e, hek, hdst, hi, hd, hg⟩ := ht.op k o ho
  have hix := ht.ix k e hek
  have hklt : k < all.length := (List.getElem?_eq_some_iff.1 hek).1
  have hsplit := split_at hek
  have hkP : k ∉ PS := fun hc => by
   have := (hw.one k hc).1
   rw [getD_ff this] at hl
   cases hl
  have htodoP : todoP listed PS all = (all.take k).filter (fun e => !(listed.getD e.ix true) || PS.contains e.ix) ++ e :: (all.drop (k + 1)).filter (fun e => !(listed.getD e.ix true) || PS.contains e.ix) := by
   unfold todoP
   conv => lhs; rw [hsplit]
   rw [List.filter_append, List.filter_cons, if_pos (by rw [hix, hl]; rfl)]
  have hsz' : (listed.setIfInBounds k true).size = ops.size := by simp [hsz]
  have hklt' : k < listed.size := by rw [hsz, ← ht.len]; exact hklt
  have hset : ∀ j, j ≠ k → (listed.setIfInBounds k true).getD j true = listed.getD j true := fun j hj => getD_set_ne true (Ne.symm hj)
  have hcount : (todo (listed.setIfInBounds k true) all).length + 1 = (todo listed all).length := by
   have h1 : todo listed all = (all.take k).filter (fun e => !(listed.getD e.ix true)) ++ e :: (all.drop (k + 1)).filter (fun e => !(listed.getD e.ix true)) := by
    unfold todo
    conv => lhs; rw [hsplit]
    rw [List.filter_append, List.filter_cons, if_pos (by rw [hix, hl]; rfl)]
   have h2 : todo (listed.setIfInBounds k true) all = (all.take k).filter (fun e => !(listed.getD e.ix true)) ++ (all.drop (k + 1)).filter (fun e => !(listed.getD e.ix true)) := by
    unfold todo
    conv => lhs; rw [hsplit]
    rw [List.filter_append, List.filter_cons, if_neg (by rw [hix]; simp [hklt'])]
    congr 1
    ·refine List.filter_congr fun x hx => ?_
     obtain ⟨j, hjk, hj⟩ := mem_take hx
     rw [ht.ix j x hj, hset j (by omega)]
    ·refine List.filter_congr fun x hx => ?_
     obtain ⟨j, hjk, hj⟩ := mem_drop hx
     rw [ht.ix j x hj, hset j (by omega)]
   rw [h1, h2]
   simp only [List.length_append, List.length_cons]
   omega
  have hcl' : Closed ops (listed.setIfInBounds k true) := by
   intro k' o' ho' hl' e' he' hb'
   by_cases e0 : k' = k
   ·subst e0
    rw [ho] at ho'
    injection ho' with ho'
    subst ho'
    exact getD_set_true (hall e' he' hb')
   ·rw [getD_set_ne false (Ne.symm e0)] at hl'
    exact getD_set_true (hcl k' o' ho' hl' e' he' hb')
  -- those that wait have names of their own
  have hname : ∀ i ∈ PS, ∀ ei, all[i]? = some ei → (∀ d, ei.op.dst = some d → e.op.dst ≠ some d) := by
   intro i hi ei hei d hdi hde
   rcases Nat.lt_trichotomy i k with q | q | q
   ·rcases ht.pair i k ei e q hei hek with hq | hq | ⟨hq, _⟩
    ·exact held_dep ht hcl (hh i hi) ho hall hq
    ·exact (apart_spec (pair_apart hq)).2.1 d hdi hde
    ·exact (apart_spec (pend_cls hq).2.2).2.1 d hdi hde
   ·exact hkP (q ▸ hi)
   ·rcases ht.pair k i e ei q hek hei with hq | hq | ⟨hq, _⟩
    ·obtain ⟨oi, hoi, hdi'⟩ := listed_deps ht hcl (hw.one i hi).1 hei
     have := reach_listed ht.reach hcl i oi hoi hdi' k hq
     rw [getD_ff this] at hl
     cases hl
    ·exact (apart_spec (pair_apart hq)).2.1 d hde hdi
    ·exact (apart_spec (pend_cls hq).2.2).2.1 d hde hdi
  have hbef : ∀ x ∈ (all.take k).filter (fun e => !(listed.getD e.ix true) || PS.contains e.ix), pairE x e = true ∨ pendE x e = true := by
   intro x hx
   obtain ⟨hx1, hx2⟩ := List.mem_filter.1 hx
   obtain ⟨j, hjk, hj⟩ := mem_take hx1
   have hjx := ht.ix j x hj
   rw [hjx] at hx2
   rcases ht.pair j k x e hjk hj hek with hq | hq | ⟨hq, _⟩
   ·exfalso
    have hjt := reach_listed ht.reach hcl k o ho hall j hq
    rcases Bool.or_eq_true_iff.1 hx2 with q | q
    ·rw [getD_ff hjt] at q; cases q
    ·exact held_dep ht hcl (hh j (by simpa using q)) ho hall hq
   ·exact .inl hq
   ·exact .inr hq
  rw [htodoP] at hs
  by_cases hp : ∀ x ∈ (all.take k).filter (fun e => !(listed.getD e.ix true) || PS.contains e.ix), pairE x e = true
  ·obtain ⟨t1, hs1, heq⟩ := bubble _ _ _ _ hs hp
   rw [execE, Option.bind_eq_some_iff] at hs1
   obtain ⟨⟨v, s1, X⟩, hgs, hs1⟩ := hs1
   split at hs1
   ·obtain ⟨t2, hs2, heq2⟩ := execE_mono _ _ [] _ (put e.op.dst v s1) t1 (sameK_some.1 hs1).2 (by simp) (Eqv.refl _)
    have htodoP' : (all.take k).filter (fun e => !(listed.getD e.ix true) || PS.contains e.ix) ++ (all.drop (k + 1)).filter (fun e => !(listed.getD e.ix true) || PS.contains e.ix) = todoP (listed.setIfInBounds k true) PS all := by
     unfold todoP
     conv => rhs; rw [hsplit]
     rw [List.filter_append, List.filter_cons, if_neg (by rw [hix]; simp [hklt', hkP])]
     congr 1
     ·refine List.filter_congr fun x hx => ?_
      obtain ⟨j, hjk, hj⟩ := mem_take hx
      rw [ht.ix j x hj, hset j (by omega)]
     ·refine List.filter_congr fun x hx => ?_
      obtain ⟨j, hjk, hj⟩ := mem_drop hx
      rw [ht.ix j x hj, hset j (by omega)]
    have hpm : (put e.op.dst v s1).mem = s1.mem := by cases e.op.dst <;> rfl
    have next : ∀ w' ι' r, SR P base nt w0 ι0 m0 w' ι' (put e.op.dst v s1) (a.put o.dst r) → n ≤ s1.mem.length → Fr w ι st.mem w' → Fresh w ι st.mem ι' s1.mem → wpAny P .any ops Q fuel (listed.setIfInBounds k true) (a.put o.dst r) w' := by
     intro w' ι' r h' hl' hfr hfe
     refine ih _ PS G w' ι' _ _ t2 hsz' hcl' (by omega) (by rw [hpm]; exact hl') h' ⟨fun i hi => ?_, hw.inj⟩ (by rw [← htodoP']; exact hs2) fun w2 ι2 a2 t3 h3 he3 => hQ w2 ι2 a2 t3 h3 ((heq.trans heq2).trans he3)
     obtain ⟨k1, ei, k2, k3⟩ := hw.one i hi
     refine ⟨getD_set_true k1, ei, k2, ?_⟩
     rw [hpm]
     refine k3.step hfr hfe fun d hd' => ?_
     rw [← hdst]
     exact hname i hi ei k2 d hd'
    unfold wpOp
    simp only [ho]
    unfold stepG at hgs
    simp only [Option.bind_eq_some_iff] at hgs
    obtain ⟨tb, htb, hgs⟩ := hgs
    rw [wantB_sound h.env hg htb]
    cases tb with
    | true =>
     simp only [if_true, Option.bind_eq_some_iff, Option.some.injEq, Prod.mk.injEq] at hgs ⊢
     obtain ⟨r, hr, rfl, rfl, rfl⟩ := hgs
     left
     refine stepE_soundK hC h hn hlen hi hr fun w' ι' r' hv hm hev hfr => next w' ι' r' ?_ (Nat.le_trans hlen hev.len) hfr.1 hfr.2
     rw [hdst]
     exact h.put hv hm hev (stepE_keeps hr) hd
    | false =>
     simp only [Bool.false_eq_true, if_false, Option.some.injEq, Prod.mk.injEq] at hgs ⊢
     obtain ⟨rfl, rfl, rfl⟩ := hgs
     refine next w ι _ ?_ hlen (Fr.refl _ _ _) (Fresh.refl _ _ _)
     rw [hdst]
     exact h.put (.c .undef) h.mem (Evo.refl _ _ _) rfl hd
   ·cases hs1
  ·have hex : ∃ x ∈ (all.take k).filter (fun e => !(listed.getD e.ix true) || PS.contains e.ix), pendE x e = true := by
    apply Classical.byContradiction
    intro hc
    refine hp fun x hx => ?_
    rcases hbef x hx with q | q
    ·exact q
    ·exact absurd ⟨x, hx, q⟩ hc
   obtain ⟨x, hx, hpe⟩ := hex
   obtain ⟨d, z, ty, hop, hz⟩ := isAl_spec (pend_cls hpe).2.1
   have hlk : e.op.looks = [] := by rw [hop]; rfl
   have hed : e.op.dst = some d := by rw [hop]
   obtain ⟨t1, hs1, heq⟩ := execE_junk hed hlk _ _ _ _ ((d, .c .junk) :: st.env) hs (fun y hy => by
    rcases hbef y hy with q | q
    ·exact pair_apart q
    ·exact (pend_cls q).2.2) fun u hu => by simp [get, Ne.symm hu]
   have htodoP' : (all.take k).filter (fun e => !(listed.getD e.ix true) || PS.contains e.ix) ++ e :: (all.drop (k + 1)).filter (fun e => !(listed.getD e.ix true) || PS.contains e.ix) = todoP (listed.setIfInBounds k true) (k :: PS) all := by
    unfold todoP
    conv => rhs; rw [hsplit]
    rw [List.filter_append, List.filter_cons, if_pos (by rw [hix]; simp)]
    congr 1
    ·refine List.filter_congr fun x hx => ?_
     obtain ⟨j, hjk, hj⟩ := mem_take hx
     rw [ht.ix j x hj, hset j (by omega)]
     have : j ≠ k := by omega
     simp [this]
    ·congr 1
     refine List.filter_congr fun x hx => ?_
     obtain ⟨j, hjk, hj⟩ := mem_drop hx
     rw [ht.ix j x hj, hset j (by omega)]
     have : j ≠ k := by omega
     simp [this]
   unfold wpOp
   simp only [ho]
   have htb : wantB st.env e.op.gd = some true := by rw [hop]; rfl
   rw [wantB_sound h.env hg htb]
   simp only [if_true]
   left
   have hio : trI P o.op = some (.alloc z ty) := by rw [hi, hop]
   have hod : o.dst = some d := by rw [← hdst, hed]
   refine wp_pend h hop hz hio hod (hd d hod) fun w' a' hsr hshd hold => ?_
   refine ih _ (k :: PS) (fun j => if j = k then w.heap.size else G j) w' ι a' (st.wenv ((d, .c .junk) :: st.env)) t1 hsz' hcl' (by omega) hlen hsr ⟨fun i hi => ?_, fun i hi j hj hij => ?_⟩ (by rw [← htodoP']; exact hs1) fun w2 ι2 a2 t3 h3 he3 => hQ w2 ι2 a2 t3 h3 (heq.trans he3)
   ·rcases List.mem_cons.1 hi with rfl | hi
    ·refine ⟨?_, e, hek, by simp only [if_true]; exact hshd⟩
     simp only [Array.getD_eq_getD_getElem?]
     rw [Array.getElem?_setIfInBounds_self_of_lt hklt']
     rfl
    ·have hik : i ≠ k := fun e => hkP (e ▸ hi)
     obtain ⟨k1, ei, k2, k3⟩ := hw.one i hi
     refine ⟨getD_set_true k1, ei, k2, ?_⟩
     simp only [if_neg hik]
     exact (hold ei (G i) (fun hc => hname i hi ei k2 d hc hed) k3).1
   ·have hsz2 : ∀ i ∈ PS, G i ≠ w.heap.size := fun i hi => by
     obtain ⟨k1, ei, k2, k3⟩ := hw.one i hi
     exact (hold ei (G i) (fun hc => hname i hi ei k2 d hc hed) k3).2
    have hik : i ∈ PS → i ≠ k := fun hi e => hkP (e ▸ hi)
    have hjk : j ∈ PS → j ≠ k := fun hj e => hkP (e ▸ hj)
    rcases List.mem_cons.1 hi with hi1 | hi1
    ·rcases List.mem_cons.1 hj with hj1 | hj1
     ·exact absurd (hi1.trans hj1.symm) hij
     ·simp only [if_pos hi1, if_neg (hjk hj1)]
      exact Ne.symm (hsz2 j hj1)
    ·rcases List.mem_cons.1 hj with hj1 | hj1
     ·simp only [if_pos hj1, if_neg (hik hi1)]
      exact hsz2 i hi1
     ·simp only [if_neg (hik hi1), if_neg (hjk hj1)]
      exact hw.inj i hi1 j hj1 hij
theorem trE_op {cl : Bool} {R : List (List Nat)} {all : List IOp} : ∀ (l : List IOp) (k p : Nat), (trE cl R all k p l).map (·.op) = l
 | [], _, _ => rfl
 | o :: l, k, p => by simp only [trE, List.map_cons, trE_op l]; rfl
theorem regOk_spec {ops : Array Oper} {R : List (List Nat)} {l : List EOp} (h : regOk ops R l = true) {k : Nat} (hk : k < l.length) : (∃ o, ops[k]? = some o ∧ ∀ e ∈ o.after, Region.binds .any e = true → e.on < k) ∧
  ∃ i, l[k]? = some i ∧ i.ix = k ∧ ∀ j, j < k → inR R j k = true ∨ ∃ x, l[j]? = some x ∧ (pairE x i = true ∨ (pendE x i = true ∧ ∀ d, d < l.length → inR R k d = true → inR R j d = true)) := by
 unfold regOk at h
 rw [Bool.and_eq_true] at h
 have h := h.2
 rw [List.all_eq_true] at h
 have := h k (List.mem_range.2 hk)
 simp only [Bool.and_eq_true] at this
 obtain ⟨h1, h2⟩ := this
 constructor
 ·split at h1
  ·rename_i o ho
   refine ⟨o, ho, fun e he hb => ?_⟩
   rw [Array.all_eq_true_iff_forall_mem] at h1
   have := h1 e he
   simpa [hb] using this
  ·cases h1
 ·split at h2
  ·rename_i i hi
   simp only [Bool.and_eq_true, beq_iff_eq, List.all_eq_true, List.mem_range, Bool.or_eq_true] at h2
   refine ⟨i, hi, h2.1, fun j hj => ?_⟩
   rcases h2.2 j hj with hq | hq
   ·exact .inl hq
   ·right
    split at hq
    ·rename_i x hx
     refine ⟨x, hx, ?_⟩
     simp only [Bool.and_eq_true, List.all_eq_true, List.mem_range, Bool.or_eq_true, Bool.not_eq_true'] at hq
     rcases hq with hq | ⟨hq, hq2⟩
     ·exact .inl hq
     ·refine .inr ⟨hq, fun d hd hr => ?_⟩
      rcases hq2 d hd with q | q
      ·rw [hr] at q; cases q
      ·exact q
    ·cases hq
  ·cases h2
end
end Go.Proofs.YtfbeplbcaanimaaGreat
