/-
  Regions whose order is open and that make or write memory: the abstract machine is sound there.
-/
import Derived.Test.YtkoloapgeilbdaaFt
set_option linter.unusedVariables false
set_option linter.unusedSimpArgs false
namespace Go.Proofs.Ytkoloapgeilbdaa
open Go.RowKit

section
variable {P : Program} {base nt : Nat} {w0 w w' : World} {ι0 ι ι' ι1 : Nat → Nat × Nat} {m0 m m' : List Blk} {a : Act} {o : Oper} {st : St} {e : Nat} {wr : Nat}
  {call : FuncId → List V → List Blk → Option Ret} {env : List (Nat × V)} {ops : Array Oper} {n : Nat}

theorem dead_get {p : Nat} (h : isDead m p = true) : ∃ blk, m[p]? = some blk ∧ blk.cs = [] ∧ blk.esz = 1 ∧ blk.own = false := by
  unfold isDead at h
  split at h
  · rename_i ty hb
    exact ⟨_, hb, rfl, rfl, rfl⟩
  · cases h
theorem not_alive {blk : Blk} (h1 : blk.esz = 1) (h2 : blk.own = false) : ¬ blk.alive := fun h => by
  rcases h.or with h | h
  · rw [h2] at h; cases h
  · omega

section move
variable {blk : Blk} {p : Nat}
/-- A new block is put into a place that was kept for it. -/
theorem CR.move (hd : isDead m p = true) {c : C} {r : Value} (h : CR w' ι1 (m ++ [blk]) c r) (hc : c.refs ≤ m.length) : CR w' (fun j => if j = p then ι1 m.length else ι1 j) (m.set p blk) c r := by
  obtain ⟨bd, d1, d2, d3, d4⟩ := dead_get hd
  have get : ∀ (b : Nat) (bb : Blk), b + 1 ≤ m.length → (m ++ [blk])[b]? = some bb → bb.alive → b ≠ p ∧ (m.set p blk)[b]? = some bb := by
    intro b bb hb hg ha
    rw [List.getElem?_append_left (by omega)] at hg
    have hne : b ≠ p := by
      rintro rfl
      rw [d1] at hg
      injection hg with hg
      subst hg
      exact not_alive d3 d4 ha
    exact ⟨hne, by rw [List.getElem?_set_ne (Ne.symm hne)]; exact hg⟩
  cases h with
  | junk => exact .junk _
  | undef => exact .undef
  | bool => exact .bool _
  | int => exact .int _ _
  | str => exact .str _
  | nilp => exact .nilp
  | nils => exact .nils
  | fn => exact .fn _
  | clo => exact .clo _ _
  | flat _ hv => exact .flat _ hv
  | @ptr b off tot bb _ h0 hb ht ha hv =>
    obtain ⟨k1, k2⟩ := get b bb hc hb ha
    refine .ptr h0 k2 ht ha fun e => ?_
    rw [hv e]
    unfold atA
    simp only [if_neg k1]
  | @clp f b off tot bb _ h0 hb ht ha hv =>
    obtain ⟨k1, k2⟩ := get b bb hc hb ha
    refine .clp f h0 k2 ht ha fun e => ?_
    rw [hv e]
    unfold atA
    simp only [if_neg k1]
  | @sl b off len tot bb _ h0 hb ht ha hv =>
    obtain ⟨k1, k2⟩ := get b bb hc hb ha
    refine .sl h0 k2 ht ha fun e => ?_
    obtain ⟨ad, cap, e1, e5, e2, e3, e4⟩ := hv e
    refine ⟨ad, cap, e1, fun hq => ?_, e2, e3, fun hz ho => ?_⟩
    · rw [e5 hq]; unfold atA; simp only [if_neg k1]
    · simp only [if_neg k1]; exact e4 hz ho
theorem CR.move_ptr (hd : isDead m p = true) {off tot : Nat} {r : Value} (h : CR w' ι1 (m ++ [blk]) (.ptr m.length off tot) r) : CR w' (fun j => if j = p then ι1 m.length else ι1 j) (m.set p blk) (.ptr p off tot) r := by
  obtain ⟨bd, d1, _⟩ := dead_get hd
  have hlt := lt_of_get d1
  cases h with
  | @ptr b off tot bb _ h0 hb ht ha hv =>
    have : bb = blk := by simpa using hb.symm
    subst this
    refine .ptr h0 (List.getElem?_set_self hlt) ht ha fun e => ?_
    rw [hv e]
    unfold atA
    simp
theorem CR.move_sl (hd : isDead m p = true) {off len tot : Nat} {r : Value} (h : CR w' ι1 (m ++ [blk]) (.sl m.length off len tot) r) : CR w' (fun j => if j = p then ι1 m.length else ι1 j) (m.set p blk) (.sl p off len tot) r := by
  obtain ⟨bd, d1, _⟩ := dead_get hd
  have hlt := lt_of_get d1
  cases h with
  | @sl b off len tot bb _ h0 hb ht ha hv =>
    have : bb = blk := by simpa using hb.symm
    subst this
    refine .sl h0 (List.getElem?_set_self hlt) ht ha fun e => ?_
    obtain ⟨ad, cap, e1, e5, e2, e3, e4⟩ := hv e
    refine ⟨ad, cap, e1, fun hq => ?_, e2, e3, fun hz ho => ?_⟩
    · rw [e5 hq]; unfold atA; simp
    · simp only [if_true]; exact e4 hz ho

theorem MR.move (h0 : MR base w0 ι0 m0 w ι m e wr) {e' : Nat} {wr' : Nat} (hm : MR base w0 ι0 m0 w' ι1 (m ++ [blk]) e' wr') (hev : Evo w ι m w' ι1 (m ++ [blk])) (hd : isDead m p = true) (hp : m0.length ≤ p) (hown : blk.own = true) (hr : refsL blk.cs ≤ m.length) :
    MR base w0 ι0 m0 w' (fun j => if j = p then ι1 m.length else ι1 j) (m.set p blk) e' wr' ∧ Evo w ι m w' (fun j => if j = p then ι1 m.length else ι1 j) (m.set p blk) := by
  obtain ⟨bd, d1, d2, d3, d4⟩ := dead_get hd
  have hlt := lt_of_get d1
  have hnew : (m ++ [blk])[m.length]? = some blk := by simp
  -- what lies in the new memory lay in the one before it
  have from' : ∀ (b : Nat) (bb : Blk), (m.set p blk)[b]? = some bb → (b = p ∧ bb = blk) ∨ (b ≠ p ∧ m[b]? = some bb ∧ (m ++ [blk])[b]? = some bb) := by
    intro b bb hb
    by_cases hbp : b = p
    · subst hbp
      rw [List.getElem?_set_self hlt] at hb
      injection hb with hb
      exact .inl ⟨rfl, hb.symm⟩
    · rw [List.getElem?_set_ne (Ne.symm hbp)] at hb
      exact .inr ⟨hbp, hb, by rw [List.getElem?_append_left (lt_of_get hb)]; exact hb⟩
  have old : ∀ (b : Nat) (bb : Blk), m[b]? = some bb → b ≠ p → (m.set p blk)[b]? = some bb := fun b bb hb hbp => by rw [List.getElem?_set_ne (Ne.symm hbp)]; exact hb
  have refs : ∀ (b : Nat) (bb : Blk) (c : C), m[b]? = some bb → c ∈ bb.cs → c.refs ≤ m.length := fun b bb c hb hc => h0.sim.refs_le hb hc
  have sim : Sim base w' (fun j => if j = p then ι1 m.length else ι1 j) (m.set p blk) := by
    refine ⟨hm.sim.le, fun b bb hb ho => ?_, fun b bb hb ho hz => ?_, fun b bb hb ho hz => ?_, fun b b' bb bb' hb hb' ho ho' he => ?_⟩
    · rcases from' b bb hb with ⟨rfl, rfl⟩ | ⟨hne, hb1, hb2⟩
      · obtain ⟨h1, h2, rc, h3, h4, h5⟩ := hm.sim.own _ _ hnew ho
        simp only [if_true]
        exact ⟨h1, h2, rc, h3, h4, fun j c hj => let ⟨r, q1, q2, q3⟩ := h5 j c hj; ⟨r, q1, q2.move hd (refsL_le.1 hr c (List.mem_of_getElem? hj)), q3⟩⟩
      · obtain ⟨h1, h2, rc, h3, h4, h5⟩ := hm.sim.own _ _ hb2 ho
        simp only [if_neg hne]
        exact ⟨h1, h2, rc, h3, h4, fun j c hj => let ⟨r, q1, q2, q3⟩ := h5 j c hj; ⟨r, q1, q2.move hd (refs b bb c hb1 (List.mem_of_getElem? hj)), q3⟩⟩
    · rcases from' b bb hb with ⟨rfl, rfl⟩ | ⟨hne, hb1, hb2⟩
      · rw [hown] at ho; cases ho
      · obtain ⟨h1, h2⟩ := hm.sim.ro _ _ hb2 ho hz
        simp only [if_neg hne]
        refine ⟨h1, fun j c hj => ?_⟩
        obtain ⟨r, q1, q2, q3⟩ := h2 j c hj
        refine ⟨r, ?_, q2.move hd (refs b bb c hb1 (List.mem_of_getElem? hj)), q3⟩
        simp only [atA, if_neg hne] at q1 ⊢
        exact q1
    · rcases from' b bb hb with ⟨rfl, rfl⟩ | ⟨hne, hb1, hb2⟩
      · rw [hown] at ho; cases ho
      · exact hm.sim.non _ _ hb2 ho hz
    · rcases from' b bb hb with ⟨rfl, rfl⟩ | ⟨hne, hb1, hb2⟩ <;> rcases from' b' bb' hb' with ⟨rfl, rfl⟩ | ⟨hne', hb1', hb2'⟩
      · rfl
      · simp only [if_true, if_neg hne'] at he
        have := hm.sim.inj _ _ _ _ hnew hb2' ho ho' he
        have := lt_of_get hb1'
        omega
      · simp only [if_true, if_neg hne] at he
        have := hm.sim.inj _ _ _ _ hb2 hnew ho ho' he
        have := lt_of_get hb1
        omega
      · simp only [if_neg hne, if_neg hne'] at he
        exact hm.sim.inj _ _ _ _ hb2 hb2' ho ho' he
  have hlen := h0.evo.len
  have evo0 : Evo w0 ι0 m0 w' (fun j => if j = p then ι1 m.length else ι1 j) (m.set p blk) := by
    intro b bb hb
    have hb0 := lt_of_get hb
    have hne : b ≠ p := by omega
    obtain ⟨b2, q1, q2⟩ := hm.evo b bb hb
    rw [List.getElem?_append_left (by omega)] at q1
    exact ⟨b2, old b b2 q1 hne, by simpa only [if_neg hne] using q2⟩
  have evo : Evo w ι m w' (fun j => if j = p then ι1 m.length else ι1 j) (m.set p blk) := by
    intro b bb hb
    by_cases hbp : b = p
    · subst hbp
      rw [d1] at hb
      injection hb with hb
      subst hb
      exact ⟨blk, List.getElem?_set_self hlt, fun ha => absurd ha (not_alive d3 d4)⟩
    · obtain ⟨b2, q1, q2⟩ := hev b bb hb
      rw [List.getElem?_append_left (lt_of_get hb)] at q1
      exact ⟨b2, old b b2 q1 hbp, by simpa only [if_neg hbp] using q2⟩
  refine ⟨⟨sim, evo0, hm.fr, fun b bb hb ho hl => ?_, ⟨fun b hb => ?_, hm.bel.2⟩, hm.refs0, fun b bb c hb hc => ?_⟩, evo⟩
  · rcases from' b bb hb with ⟨rfl, rfl⟩ | ⟨hne, hb1, hb2⟩
    · simp only [if_true] at hl ⊢
      exact hm.fresh _ _ hnew ho hl
    · simp only [if_neg hne] at hl ⊢
      exact hm.fresh _ _ hb2 ho hl
  · rw [List.getElem?_set_ne (by omega)]
    have := hm.bel.1 b hb
    rwa [List.getElem?_append_left (by omega)] at this
  · rcases from' b bb hb with ⟨rfl, rfl⟩ | ⟨hne, hb1, hb2⟩
    · rcases hm.esc _ _ c hnew hc with q | ⟨b0, q1, q2⟩
      · exact .inl q
      · have := lt_of_get q1
        omega
    · exact hm.esc _ _ c hb2 hc
end move

/-- Places kept for blocks to come. -/
theorem dead_app {k b : Nat} {bb : Blk} (h : (m ++ List.replicate k dead)[b]? = some bb) : m[b]? = some bb ∨ (m.length ≤ b ∧ bb = dead) := by
  rcases Nat.lt_or_ge b m.length with hb | hb
  · rw [List.getElem?_append_left hb] at h; exact .inl h
  · rw [List.getElem?_append_right hb] at h
    exact .inr ⟨hb, (List.mem_replicate.1 (List.mem_of_getElem? h)).2⟩
theorem CR.app (l : List Blk) {c : C} {r : Value} (h : CR w ι m c r) : CR w ι (m ++ l) c r := by
  cases h with
  | junk => exact .junk _
  | undef => exact .undef
  | bool => exact .bool _
  | int => exact .int _ _
  | str => exact .str _
  | nilp => exact .nilp
  | nils => exact .nils
  | fn => exact .fn _
  | clo => exact .clo _ _
  | flat _ hv => exact .flat _ hv
  | ptr h0 hb ht ha hv => exact .ptr h0 (by rw [List.getElem?_append_left (lt_of_get hb)]; exact hb) ht ha hv
  | clp f h0 hb ht ha hv => exact .clp f h0 (by rw [List.getElem?_append_left (lt_of_get hb)]; exact hb) ht ha hv
  | sl h0 hb ht ha hv => exact .sl h0 (by rw [List.getElem?_append_left (lt_of_get hb)]; exact hb) ht ha hv
theorem AR.app (l : List Blk) {cs : List C} {rs : List Value} (h : AR w ι m cs rs) : AR w ι (m ++ l) cs rs := ⟨h.1, fun j c hj => let ⟨r, h1, h2, h3⟩ := h.2 j c hj; ⟨r, h1, h2.app l, h3⟩⟩
theorem WR.app (l : List Blk) {v : V} {r : Value} (h : WR w ι m v r) : WR w ι (m ++ l) v r := by
  cases h with
  | c h => exact .c (h.app l)
  | agg h => exact .agg (h.app l)
theorem VR.app (l : List Blk) {v : V} {r : Value} (h : VR w ι m v r) : VR w ι (m ++ l) v r := by
  cases h with
  | one h => exact .one (h.app l)
  | tup hl hh => exact .tup hl fun j v hj => let ⟨r, h1, h2⟩ := hh j v hj; ⟨r, h1, h2.app l⟩
theorem MR.dead (h : MR base w0 ι0 m0 w ι m e wr) (k : Nat) : MR base w0 ι0 m0 w ι (m ++ List.replicate k dead) e wr := by
  refine ⟨⟨h.sim.le, fun b bb hb ho => ?_, fun b bb hb ho hz => ?_, fun b bb hb ho hz => ?_, fun b b' bb bb' hb hb' ho ho' he => ?_⟩, fun b bb hb => ?_, h.fr, fun b bb hb ho hl => ?_, ⟨fun b hb => ?_, h.bel.2⟩, h.refs0, fun b bb c hb hc => ?_⟩
  · rcases dead_app hb with hb | ⟨_, rfl⟩
    · obtain ⟨h1, h2, rc, h3, h4, h5⟩ := h.sim.own b bb hb ho
      exact ⟨h1, h2, rc, h3, h4, fun j c hj => let ⟨r, q1, q2, q3⟩ := h5 j c hj; ⟨r, q1, q2.app _, q3⟩⟩
    · cases ho
  · rcases dead_app hb with hb | ⟨_, rfl⟩
    · obtain ⟨h1, h2⟩ := h.sim.ro b bb hb ho hz
      exact ⟨h1, fun j c hj => let ⟨r, q1, q2, q3⟩ := h2 j c hj; ⟨r, q1, q2.app _, q3⟩⟩
    · cases hz
  · rcases dead_app hb with hb | ⟨_, rfl⟩
    · exact h.sim.non b bb hb ho hz
    · rfl
  · rcases dead_app hb with hb | ⟨_, rfl⟩ <;> rcases dead_app hb' with hb' | ⟨_, rfl⟩
    · exact h.sim.inj b b' bb bb' hb hb' ho ho' he
    · cases ho'
    · cases ho
    · cases ho
  · obtain ⟨b2, q1, q2⟩ := h.evo b bb hb
    exact ⟨b2, by rw [List.getElem?_append_left (lt_of_get q1)]; exact q1, q2⟩
  · rcases dead_app hb with hb | ⟨_, rfl⟩
    · exact h.fresh b bb hb ho hl
    · cases ho
  · have hl := h.evo.len
    rw [List.getElem?_append_left (by omega)]
    exact h.bel.1 b hb
  · rcases dead_app hb with hb | ⟨_, rfl⟩
    · exact h.esc b bb c hb hc
    · cases hc
theorem SR.dead (h : SR P base nt w0 ι0 m0 w ι st a) (k : Nat) : SR P base nt w0 ι0 m0 w ι { st with mem := st.mem ++ List.replicate k dead } a := ⟨h.mem.dead k, fun t => (h.env t).app _, h.defers, h.size⟩
theorem SR.eqv {st2 : St} (h : SR P base nt w0 ι0 m0 w ι st a) (he : Eqv st st2) : SR P base nt w0 ι0 m0 w ι st2 a :=
  ⟨by rw [← he.mem, ← he.esc, ← he.wr]; exact h.mem, fun t => by rw [← he.mem, ← he.env]; exact h.env t, h.defers, h.size⟩

theorem makes_rel {n0 : Nat} {i : I} (hm : i.makes = true) {r : V × St} (hr : stepL call n0 { st with mem := [] } i = some r) :
    ∃ blk e, r.2 = { st with mem := [blk], esc := mx st.esc e } ∧ blk.own = true ∧
      ((∃ o t, r.1 = .c (.ptr 0 o t) ∧ stepL call n0 st i = some (.c (.ptr st.mem.length o t), { st with mem := st.mem ++ [blk], esc := mx st.esc e })) ∨
       (∃ o l t, r.1 = .c (.sl 0 o l t) ∧ stepL call n0 st i = some (.c (.sl st.mem.length o l t), { st with mem := st.mem ++ [blk], esc := mx st.esc e }))) := by
  cases i with
  | alloc z ty =>
    simp only [stepL, Option.some.injEq] at hr
    subst hr
    exact ⟨_, _, rfl, rfl, .inl ⟨_, _, rfl, rfl⟩⟩
  | box x ty =>
    simp only [stepL, Option.bind_eq_some_iff, Option.some.injEq] at hr
    obtain ⟨z, hz, rfl⟩ := hr
    exact ⟨_, _, rfl, rfl, .inl ⟨_, _, rfl, by simp only [stepL, hz, Option.bind_some]⟩⟩
  | mks k z ty bytes =>
    simp only [stepL, Option.bind_eq_some_iff, guard'] at hr
    obtain ⟨l, hl, hr⟩ := hr
    split at hr
    · rename_i hc
      injection hr with hr
      subst hr
      exact ⟨_, _, rfl, rfl, .inr ⟨_, _, _, rfl, by simp only [stepL, hl, Option.bind_some, guard', if_pos hc]⟩⟩
    · cases hr
  | lit k esz z ps ty =>
    simp only [stepL, guard'] at hr
    split at hr
    · rename_i hc
      simp only [Option.bind_eq_some_iff] at hr
      obtain ⟨cs, hcs, hr⟩ := hr
      split at hr
      · rename_i hc2
        injection hr with hr
        subst hr
        exact ⟨_, _, rfl, rfl, .inr ⟨_, _, _, rfl, by simp only [stepL, hcs, Option.bind_some, guard', if_pos hc, if_pos hc2]⟩⟩
      · cases hr
    · cases hr
  | _ => cases hm

theorem VR.of_refs0 {v : V} {r : Value} (h : VR w ι m v r) (hv : v.refs = 0) : VR w ι [] v r := by
  have := h.take (k := 0) (by omega)
  simpa using this
theorem refsAll_mem {vs : List V} (h : V.refsAll vs = 0) {v : V} (hv : v ∈ vs) : v.refs = 0 := by
  have := refsAll_le.1 (Nat.le_of_eq h) v hv
  omega
theorem sim_none (s : Sim base w ι m) : Sim base w ι [] := ⟨s.le, by simp, by simp, by simp, by simp⟩

theorem CR.none {c : C} {r : Value} (h : CR w ι [] c r) : CR w ι' m c r := by
  cases h with
  | junk => exact .junk _
  | undef => exact .undef
  | bool => exact .bool _
  | int => exact .int _ _
  | str => exact .str _
  | nilp => exact .nilp
  | nils => exact .nils
  | fn => exact .fn _
  | clo => exact .clo _ _
  | flat _ hv => exact .flat _ hv
  | ptr h0 hb ht ha hv => cases hb
  | clp f h0 hb ht ha hv => cases hb
  | sl h0 hb ht ha hv => cases hb
theorem WR.none {v : V} {r : Value} (h : WR w ι [] v r) : WR w ι' m v r := by
  cases h with
  | c h => exact .c h.none
  | agg h => exact .agg ⟨h.1, fun j c hj => let ⟨r, h1, h2, h3⟩ := h.2 j c hj; ⟨r, h1, h2.none, h3⟩⟩
theorem VR.none {v : V} {r : Value} (h : VR w ι [] v r) : VR w ι' m v r := by
  cases h with
  | one h => exact .one h.none
  | tup hl hh => exact .tup hl fun j v hj => let ⟨r, h1, h2⟩ := hh j v hj; ⟨r, h1, h2.none⟩
/-- A call on no memory. -/
theorem wp_pure (hC : CallOk P call) (h : SR P base nt w0 ι0 m0 w ι st a) {c : Call} {f : FuncId} (ho : o.op = .call c) {x : Operand} (hx : c.callee = .value x) (hv : a.eval x = .func (.func f) #[] #[]) {ret : Ret}
    (hr : call f ((c.args.toList.map trO).map (·.ev st.env)) [] = some ret) (h0 : V.refsAll ((c.args.toList.map trO).map (·.ev st.env)) = 0) (h1 : ret.wr = 0) (h2 : ret.mem = []) {K : Act → World → Prop} {Q : Exit → Act → World → Prop}
    (hK : ∀ w' ι' r, VR w' ι' st.mem ret.v r → MR base w0 ι0 m0 w' ι' st.mem st.esc st.wr → Evo w ι st.mem w' ι' st.mem → K (a.put o.dst r) w') : o.wp P a w K Q := by
  obtain ⟨hf, hcall⟩ := hC f _ [] ret hr
  obtain ⟨a1, a2⟩ := args_VR h.env c.args.toList
  have hc := hcall base w ι (c.args.toList.map a.eval) (sim_none h.mem.sim) a1 fun j v hj => by
    obtain ⟨r, r1, r2⟩ := a2 j v hj
    exact ⟨r, r1, r2.of_refs0 (refsAll_mem h0 (List.mem_of_getElem? hj))⟩
  unfold Oper.wp
  rw [run_call ho hx hv hf w, Oper.upon_enter]
  have ha : (c.args.toList.map a.eval).toArray = c.args.map a.eval := by apply Array.ext'; simp
  rw [← ha]
  refine hc.mono fun e w' ⟨r, ι', he, hv', hm⟩ => ?_
  subst he
  rw [h1] at hm
  obtain ⟨hB, _⟩ := hm.below
  have hB' : Below w.heap.size w w' := hB
  refine hK w' ι r ?_ (h.mem.later hB') (Evo.below hB' h.mem.sim)
  rw [h2] at hv'
  exact hv'.none

theorem stepE_sound (hC : CallOk P call) (h : SR P base nt w0 ι0 m0 w ι st a) {e : EOp} (hn : m0.length ≤ n) (ht : trI P o.op = some e.op.i) {v : V} {st' : St} (hs : stepE call m0.length n e st = some (v, st')) {K : Act → World → Prop} {Q : Exit → Act → World → Prop}
    (hK : ∀ w' ι' r, VR w' ι' st'.mem v r → MR base w0 ι0 m0 w' ι' st'.mem st'.esc st'.wr → Evo w ι st.mem w' ι' st'.mem → K (a.put o.dst r) w') : o.wp P a w K Q := by
  unfold stepE at hs
  split at hs
  · rename_i hm
    simp only [Option.bind_eq_some_iff] at hs
    obtain ⟨r, hr, hs⟩ := hs
    obtain ⟨blk, e2, q1, q2, q3⟩ := makes_rel hm hr
    rcases q3 with ⟨o1, t1, g1, g2⟩ | ⟨o1, l1, t1, g1, g2⟩
    · simp only [place, q1, g1, guard'] at hs
      split at hs
      · rename_i hd
        injection hs with hs
        injection hs with h1 h2
        subst h1; subst h2
        refine (step_sound hC h ht g2 fun w' ι' r hv hm hev => ?_).2
        obtain ⟨m1, m2⟩ := h.mem.move hm hev hd.1 (by omega) q2 hd.2
        exact hK w' _ r (.c (hv.of_c.move_ptr hd.1)) m1 m2
      · cases hs
    · simp only [place, q1, g1, guard'] at hs
      split at hs
      · rename_i hd
        injection hs with hs
        injection hs with h1 h2
        subst h1; subst h2
        refine (step_sound hC h ht g2 fun w' ι' r hv hm hev => ?_).2
        obtain ⟨m1, m2⟩ := h.mem.move hm hev hd.1 (by omega) q2 hd.2
        exact hK w' _ r (.c (hv.of_c.move_sl hd.1)) m1 m2
      · cases hs
  · split at hs
    · split at hs
      · rename_i f l hi
        rw [hi] at ht
        obtain ⟨c, hop, hc, rfl⟩ := inv_call ht
        simp only [Option.bind_eq_some_iff] at hs
        obtain ⟨ret, hr, hs⟩ := hs
        unfold pureC at hs
        split at hs
        · rename_i hq
          injection hs with hs
          injection hs with h1 h2
          subst h1; subst h2
          exact wp_pure hC h hop hc rfl hr hq.1 hq.2.1 hq.2.2 hK
        · cases hs
      · rename_i x l hi
        rw [hi] at ht
        obtain ⟨c, t, hop, hc, rfl, rfl⟩ := inv_callv ht
        split at hs
        · rename_i f hp
          simp only [Option.bind_eq_some_iff] at hs
          obtain ⟨ret, hr, hs⟩ := hs
          unfold pureC at hs
          split at hs
          · rename_i hq
            injection hs with hs
            injection hs with h1 h2
            subst h1; subst h2
            have hv := h.env t
            have hp' : get st.env t = .c (.fn f) := hp
            rw [hp'] at hv
            exact wp_pure hC h hop hc hv.fn hr hq.1 hq.2.1 hq.2.2 hK
          · cases hs
        · cases hs
      · cases hs
    · split at hs
      · cases hs
      · exact (step_sound hC h ht hs hK).2

/-! ### The region -/
theorem SR.put {v : V} {st' : St} {r : Value} {dst : Option Nat} (h : SR P base nt w0 ι0 m0 w ι st a) (hv : VR w' ι' st'.mem v r) (hm : MR base w0 ι0 m0 w' ι' st'.mem st'.esc st'.wr) (he : Evo w ι st.mem w' ι' st'.mem) (henv : st'.env = st.env) (hd : ∀ d, dst = some d → d < nt) :
    SR P base nt w0 ι0 m0 w' ι' (put dst v st') (a.put dst r) := by
  cases dst with
  | none => exact ⟨hm, fun t => by have := (h.env t).evo he; rw [← henv] at this; exact this, h.defers, h.size⟩
  | some d =>
    have he' : EnvR w' ι' st'.mem st'.env a := fun t => by rw [henv]; exact (h.env t).evo he
    exact ⟨hm, he'.put (by rw [h.size]; exact hd d rfl) hv, h.defers, by simp [Act.put, h.size]⟩

def GdR (ops : Array Oper) (o : Oper) (e : EOp) : Prop := (o.guard = none ∧ e.op.gd = none) ∨ ∃ j b t, o.guard = some (j, b) ∧ e.op.gd = some (t, b) ∧ (ops[j]?).bind (·.dst) = some t
structure TrR (P : Program) (nt : Nat) (ops : Array Oper) (R : List (List Nat)) (all : List EOp) : Prop where
  reach : reachOk ops R = true
  len : all.length = ops.size
  op : ∀ (k : Nat) (o : Oper), ops[k]? = some o → ∃ e, all[k]? = some e ∧ e.op.dst = o.dst ∧ trI P o.op = some e.op.i ∧ (∀ d, o.dst = some d → d < nt) ∧ GdR ops o e
  ix : ∀ (k : Nat) (e : EOp), all[k]? = some e → e.ix = k
  lt : ∀ (k : Nat) (o : Oper), ops[k]? = some o → ∀ e ∈ o.after, Region.binds .any e = true → e.on < k
  pair : ∀ (j k : Nat) (x y : EOp), j < k → all[j]? = some x → all[k]? = some y → inR R j k = true ∨ pairE x y = true

theorem wantB_sound (he : EnvR w ι m env a) {ex : EOp} (hg : GdR ops o ex) {t : Bool} (hw : wantB env ex.op.gd = some t) : Region.wanted o (yielded ops a.tmps) = t := by
  rcases hg with ⟨h1, h2⟩ | ⟨j, b, t', h1, h2, h3⟩
  · rw [h2] at hw
    simp only [wantB, Option.some.injEq] at hw
    subst hw
    simp [Region.wanted, h1]
  · rw [h2] at hw
    simp only [wantB] at hw
    have ht := he t'
    split at hw
    · rename_i x hx
      rw [hx] at ht
      injection hw with hw
      have hb := ht.bool
      have htm : a.tmps[t']? = some (.bool x) := by
        cases hq : a.tmps[t']? with
        | none => simp [hq, Go.undef] at hb
        | some q => simp [hq] at hb; rw [hb]
      subst hw
      cases x <;> cases b <;> simp [Region.wanted, h1, yielded, h3, htm]
    · rename_i hx
      injection hw with hw
      subst hw
      rw [hx] at ht
      have : a.tmps.getD t' undef = Go.undef := by
        have ht' := ht.of_c
        generalize a.tmps.getD t' undef = q at ht'
        cases ht'
        rfl
      cases hq : a.tmps[t']? with
      | none => simp [Region.wanted, h1, yielded, h3, hq]
      | some q =>
        have hq' : q = Go.undef := by simpa [hq] using this
        subst hq'
        simp [Region.wanted, h1, yielded, h3, hq, Go.undef]
    · cases hw

theorem getD_tf {listed : Array Bool} {j : Nat} (h : listed.getD j true = false) : listed.getD j false = false := by
  rcases Nat.lt_or_ge j listed.size with h' | h'
  · simp [h'] at h ⊢; exact h
  · simp [Array.getElem?_eq_none h'] at h
theorem getD_ft {listed : Array Bool} {j : Nat} (hj : j < listed.size) (h : ¬ listed.getD j false = true) : listed.getD j true = false := by
  simp [hj] at h ⊢; exact h

def todo (listed : Array Bool) (all : List EOp) : List EOp := all.filter fun e => !(listed.getD e.ix true)

/-- What is listed has listed whom it waits for. -/
def Closed (ops : Array Oper) (listed : Array Bool) : Prop := ∀ (k : Nat) (o : Oper), ops[k]? = some o → listed.getD k false = true → ∀ e ∈ o.after, Region.binds .any e = true → listed.getD e.on false = true
theorem reach_listed {R : List (List Nat)} (hr : reachOk ops R = true) {listed : Array Bool} (hc : Closed ops listed) : ∀ (k : Nat) (o : Oper), ops[k]? = some o → (∀ e ∈ o.after, Region.binds .any e = true → listed.getD e.on false = true) → ∀ j, inR R j k = true → listed.getD j false = true := by
  intro k
  induction k using Nat.strongRecOn with
  | _ k ih =>
    intro o ho ha j hj
    unfold reachOk at hr
    rw [List.all_eq_true] at hr
    have hk : k < ops.size := (Array.getElem?_eq_some_iff.1 ho).1
    have := hr k (List.mem_range.2 hk)
    rw [List.all_eq_true] at this
    have := this j (by simpa [inR] using hj)
    rw [ho] at this
    simp only [Option.map_some, Option.getD_some, Array.any_eq_true, Bool.and_eq_true, Bool.or_eq_true, beq_iff_eq, decide_eq_true_eq] at this
    obtain ⟨q, hq, hb, h⟩ := this
    have hl := ha _ (Array.getElem_mem hq) hb
    rcases h with h | ⟨h1, h2⟩
    · rw [h] at hl; exact hl
    · have hlt : o.after[q].on < ops.size := by omega
      exact ih _ h1 ops[o.after[q].on] (by simp [hlt]) (hc _ _ (by simp [hlt]) hl) j h2

theorem ready_some {R : List (List Nat)} {all : List EOp} (ht : TrR P nt ops R all) {listed : Array Bool} (hsz : listed.size = ops.size) : ∀ (k : Nat), k < ops.size → listed.getD k true = false → Region.ready .any ops listed ≠ [] := by
  intro k
  induction k using Nat.strongRecOn with
  | _ k ih =>
    intro hk hl
    by_cases hall : ∀ e ∈ (ops[k]).after, Region.binds .any e = true → listed.getD e.on false = true
    · have : k ∈ Region.ready .any ops listed := mem_ready.2 ⟨hl, ops[k], by simp [hk], hall⟩
      intro h0
      rw [h0] at this
      cases this
    · simp only [Classical.not_forall] at hall
      obtain ⟨e, he, hb, hn⟩ := hall
      have hlt := ht.lt k ops[k] (by simp [hk]) e he hb
      exact ih e.on hlt (by omega) (getD_ft (by omega) hn)

theorem regE_sound (hC : CallOk P call) {R : List (List Nat)} {all : List EOp} (ht : TrR P nt ops R all) (hn : m0.length ≤ n) {Q : Exit → Act → World → Prop} : ∀ (fuel : Nat) (listed : Array Bool) (w : World) (ι : Nat → Nat × Nat) (a : Act) (st t : St), listed.size = ops.size → Closed ops listed → (todo listed all).length ≤ fuel →
    SR P base nt w0 ι0 m0 w ι st a → execE call m0.length n (todo listed all) [] st = some t → (∀ w' ι' a' t', SR P base nt w0 ι0 m0 w' ι' t' a' → Eqv t t' → Q .normal a' w') → wpAny P .any ops Q fuel listed a w := by
  intro fuel
  have mem_todo : ∀ (listed : Array Bool) (k : Nat) (o : Oper), ops[k]? = some o → listed.getD k true = false → ∃ e, all[k]? = some e ∧ e ∈ todo listed all := by
    intro listed k o ho hl
    obtain ⟨e, h1, _⟩ := ht.op k o ho
    exact ⟨e, h1, List.mem_filter.2 ⟨List.mem_of_getElem? h1, by rw [ht.ix k e h1, hl]; rfl⟩⟩
  have done : ∀ (listed : Array Bool) (w : World) (ι : Nat → Nat × Nat) (a : Act) (st t : St), listed.size = ops.size → SR P base nt w0 ι0 m0 w ι st a → execE call m0.length n (todo listed all) [] st = some t → (∀ w' ι' a' t', SR P base nt w0 ι0 m0 w' ι' t' a' → Eqv t t' → Q .normal a' w') → Region.ready .any ops listed = [] → Q .normal a w := by
    intro listed w ι a st t hsz h hs hQ hr
    have hnil : todo listed all = [] := by
      cases hl : todo listed all with
      | nil => rfl
      | cons e l =>
        exfalso
        have he : e ∈ todo listed all := by rw [hl]; simp
        obtain ⟨h1, h2⟩ := List.mem_filter.1 he
        obtain ⟨k, hk⟩ := List.getElem?_of_mem h1
        have hix := ht.ix k e hk
        have hlt : k < ops.size := by rw [← ht.len]; exact (List.getElem?_eq_some_iff.1 hk).1
        exact ready_some ht hsz k hlt (by rw [hix] at h2; simpa using h2) hr
    rw [hnil, execE, Option.some.injEq] at hs
    subst hs
    exact hQ w ι a st h (Eqv.refl _)
  induction fuel with
  | zero =>
    intro listed w ι a st t hsz hcl hle h hs hQ
    have hr : Region.ready .any ops listed = [] := by
      cases hl : Region.ready .any ops listed with
      | nil => rfl
      | cons k l =>
        exfalso
        have hk : k ∈ Region.ready .any ops listed := by rw [hl]; simp
        obtain ⟨h1, o, h2, _⟩ := mem_ready.1 hk
        obtain ⟨e, _, h4⟩ := mem_todo listed k o h2 h1
        have := List.length_pos_of_mem h4
        omega
    exact ⟨hr, done listed w ι a st t hsz h hs hQ hr⟩
  | succ fuel ih =>
    intro listed w ι a st t hsz hcl hle h hs hQ
    refine ⟨fun hr => done listed w ι a st t hsz h hs hQ hr, fun k hk => ?_⟩
    obtain ⟨hl, o, ho, hall⟩ := mem_ready.1 hk
    obtain ⟨e, hek, hdst, hi, hd, hg⟩ := ht.op k o ho
    have hix := ht.ix k e hek
    have hklt : k < all.length := (List.getElem?_eq_some_iff.1 hek).1
    have hsplit : all = all.take k ++ e :: all.drop (k + 1) := by
      have : all[k] = e := by simpa [hklt] using hek
      rw [← this, ← List.drop_eq_getElem_cons hklt, List.take_append_drop]
    generalize hA0 : all.take k = A0 at hsplit
    generalize hB0 : all.drop (k + 1) = B0 at hsplit
    have hkeep : (!(listed.getD e.ix true)) = true := by rw [hix, hl]; rfl
    have htodo : todo listed all = A0.filter (fun e => !(listed.getD e.ix true)) ++ e :: B0.filter (fun e => !(listed.getD e.ix true)) := by
      unfold todo
      conv => lhs; rw [hsplit]
      rw [List.filter_append, List.filter_cons, if_pos hkeep]
    have hne : ∀ x ∈ A0, x.ix < k := fun x hx => by
      rw [← hA0] at hx
      obtain ⟨j, hj⟩ := List.getElem?_of_mem hx
      rw [List.getElem?_take] at hj
      split at hj
      · rw [ht.ix j x hj]; assumption
      · cases hj
    have hne2 : ∀ x ∈ B0, k < x.ix := fun x hx => by
      rw [← hB0] at hx
      obtain ⟨j, hj⟩ := List.getElem?_of_mem hx
      rw [List.getElem?_drop] at hj
      rw [ht.ix _ x hj]; omega
    have hsz' : (listed.setIfInBounds k true).size = ops.size := by simp [hsz]
    have hklt' : k < listed.size := by rw [hsz, ← ht.len]; exact hklt
    have htodo' : todo (listed.setIfInBounds k true) all = A0.filter (fun e => !(listed.getD e.ix true)) ++ B0.filter (fun e => !(listed.getD e.ix true)) := by
      unfold todo
      conv => lhs; rw [hsplit]
      rw [List.filter_append, List.filter_cons, if_neg (by rw [hix]; simp [hklt'])]
      congr 1
      · refine List.filter_congr fun x hx => ?_
        rw [getD_set_ne true (by have := hne x hx; omega)]
      · refine List.filter_congr fun x hx => ?_
        rw [getD_set_ne true (by have := hne2 x hx; omega)]
    have hpair : ∀ x ∈ A0.filter (fun e => !(listed.getD e.ix true)), pairE x e = true := by
      intro x hx
      obtain ⟨hx1, hx2⟩ := List.mem_filter.1 hx
      have hxl := hne x hx1
      rw [← hA0] at hx1
      obtain ⟨j, hj⟩ := List.getElem?_of_mem hx1
      rw [List.getElem?_take] at hj
      split at hj
      · rename_i hjk
        have hjx := ht.ix j x hj
        rcases ht.pair j k x e hjk hj hek with hw | hw
        · exfalso
          have := reach_listed ht.reach hcl k o ho hall j hw
          have h0 : listed.getD j true = false := by rw [hjx] at hx2; simpa using hx2
          rw [getD_tf h0] at this
          cases this
        · exact hw
      · cases hj
    rw [htodo] at hs hle
    obtain ⟨t', hs', heq⟩ := bubble _ _ _ _ hs hpair
    rw [execE, Option.bind_eq_some_iff] at hs'
    obtain ⟨⟨v, s1, X⟩, hgs, hs'⟩ := hs'
    split at hs'
    · obtain ⟨t2, hs2, heq2⟩ := execE_mono _ _ [] _ (put e.op.dst v s1) t' hs' (by simp) (Eqv.refl _)
      have next : ∀ w' ι' a', SR P base nt w0 ι0 m0 w' ι' (put e.op.dst v s1) a' → wpAny P .any ops Q fuel (listed.setIfInBounds k true) a' w' := by
        intro w' ι' a' h'
        have hcl' : Closed ops (listed.setIfInBounds k true) := by
          intro k' o' ho' hl' e' he' hb'
          by_cases e0 : k' = k
          · subst e0
            rw [ho] at ho'
            injection ho' with ho'
            subst ho'
            exact getD_set_true (hall e' he' hb')
          · rw [getD_set_ne false (Ne.symm e0)] at hl'
            exact getD_set_true (hcl k' o' ho' hl' e' he' hb')
        refine ih _ w' ι' a' _ t2 hsz' hcl' ?_ h' (by rw [htodo']; exact hs2) fun w2 ι2 a2 t3 h3 he3 => hQ w2 ι2 a2 t3 h3 ((heq.trans heq2).trans he3)
        rw [htodo']
        simp only [List.length_append, List.length_cons] at hle ⊢
        omega
      unfold wpOp
      simp only [ho]
      unfold stepG at hgs
      simp only [Option.bind_eq_some_iff] at hgs
      obtain ⟨tb, htb, hgs⟩ := hgs
      rw [wantB_sound h.env hg htb]
      cases tb with
      | true =>
        simp only [if_true, Option.bind_eq_some_iff, Option.some.injEq, Prod.mk.injEq] at hgs ⊢
        obtain ⟨r, hr, rfl, rfl, rfl⟩ := hgs
        left
        refine stepE_sound hC h hn hi hr fun w' ι' r' hv hm hev => next w' ι' _ ?_
        rw [hdst]
        exact h.put hv hm hev (stepE_keeps hr) hd
      | false =>
        simp only [Bool.false_eq_true, if_false, Option.some.injEq, Prod.mk.injEq] at hgs ⊢
        obtain ⟨rfl, rfl, rfl⟩ := hgs
        refine next w ι _ ?_
        rw [hdst]
        exact h.put (.c .undef) h.mem (Evo.refl _ _ _) rfl hd
    · cases hs'

theorem trE_op {R : List (List Nat)} {all : List IOp} : ∀ (l : List IOp) (k p : Nat), (trE R all k p l).map (·.op) = l
  | [], _, _ => rfl
  | o :: l, k, p => by simp only [trE, List.map_cons, trE_op l]; rfl
theorem regOk_spec {ops : Array Oper} {R : List (List Nat)} {l : List EOp} (h : regOk ops R l = true) {k : Nat} (hk : k < l.length) : (∃ o, ops[k]? = some o ∧ ∀ e ∈ o.after, Region.binds .any e = true → e.on < k) ∧
    ∃ i, l[k]? = some i ∧ i.ix = k ∧ ∀ j, j < k → inR R j k = true ∨ ∃ x, l[j]? = some x ∧ pairE x i = true := by
  unfold regOk at h
  rw [Bool.and_eq_true] at h
  have h := h.2
  rw [List.all_eq_true] at h
  have := h k (List.mem_range.2 hk)
  simp only [Bool.and_eq_true] at this
  obtain ⟨h1, h2⟩ := this
  constructor
  · split at h1
    · rename_i o ho
      refine ⟨o, ho, fun e he hb => ?_⟩
      rw [Array.all_eq_true_iff_forall_mem] at h1
      have := h1 e he
      simpa [hb] using this
    · cases h1
  · split at h2
    · rename_i i hi
      simp only [Bool.and_eq_true, beq_iff_eq, List.all_eq_true, List.mem_range, Bool.or_eq_true] at h2
      refine ⟨i, hi, h2.1, fun j hj => ?_⟩
      rcases h2.2 j hj with hq | hq
      · exact .inl hq
      · right
        split at hq
        · rename_i x hx
          exact ⟨x, hx, hq⟩
        · cases hq
    · cases h2
end
end Go.Proofs.Ytkoloapgeilbdaa
