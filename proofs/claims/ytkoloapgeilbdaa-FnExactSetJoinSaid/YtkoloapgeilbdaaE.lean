/-
  The abstract machine is sound: values that have one form, forgetting, and the end of a function.
-/
import Derived.Test.YtkoloapgeilbdaaL4
set_option linter.unusedVariables false
set_option linter.unusedSimpArgs false
namespace Go.Proofs.Ytkoloapgeilbdaa
open Go.RowKit

section
variable {P : Program} {base : Nat} {w0 w w' : World} {ι0 ι ι' : Nat → Nat × Nat} {m0 m m' : List Blk} {a : Act} {o : Oper} {st : St} {e : Nat} {wr : Nat}

/-! ### Hard values -/
def C.real : C → Value
  | .bool b => .bool b
  | .int k n => .int k n
  | .str s => .string s
  | .nilp => .pointer none
  | .nils => .slice none 0 0
  | .fn f => .func (.func f) #[] #[]
  | .clo f ns => .func (.func f) #[] (ns.map fun p => Value.int p.1 p.2).toArray
  | _ => Go.undef
def V.real1 : V → Value
  | .c x => x.real
  | .agg cs => .agg (cs.map (·.real)).toArray
  | .tup _ => Go.undef
def V.real : V → Value
  | .c x => x.real
  | .agg cs => .agg (cs.map (·.real)).toArray
  | .tup vs => .tuple (vs.map V.real1).toArray

theorem C.hard_CR {c : C} (h : c.hard = true) : CR w ι m c c.real := by
  cases c <;> first | (cases h; done) | constructor
theorem C.hard_one {c : C} (h : c.hard = true) : c.real.oneCell' = true := by
  cases c <;> first | (cases h; done) | rfl
theorem C.hard_eq {c : C} (h : c.hard = true) {r : Value} (hr : CR w ι m c r) : r = c.real := by
  cases hr <;> first | (cases h; done) | rfl
theorem L.hard_AR {cs : List C} (h : cs.all (·.hard) = true) : AR w ι m cs (cs.map (·.real)) := by
  refine ⟨by simp, fun j c hj => ?_⟩
  have hc : c.hard = true := List.all_eq_true.1 h c (List.mem_of_getElem? hj)
  exact ⟨c.real, by simp [hj], C.hard_CR hc, C.hard_one hc⟩
theorem L.hard_eq {cs : List C} (h : cs.all (·.hard) = true) {rs : List Value} (hr : AR w ι m cs rs) : rs = cs.map (·.real) := by
  apply List.ext_getElem?
  intro j
  rcases Nat.lt_or_ge j cs.length with hj | hj
  · obtain ⟨r, h1, h2, _⟩ := hr.2 j cs[j] (by simp [hj])
    have hc : cs[j].hard = true := List.all_eq_true.1 h _ (by simp)
    rw [h1, C.hard_eq hc h2]
    simp [hj]
  · rw [List.getElem?_eq_none (by rw [← hr.1]; exact hj), List.getElem?_eq_none (by simpa using hj)]
theorem V.hard_WR {v : V} (h : v.hard = true) (hn : ∀ vs, v ≠ .tup vs) : WR w ι m v v.real1 := by
  cases v with
  | c x => exact .c (C.hard_CR h)
  | agg cs => exact .agg (by simpa using L.hard_AR h)
  | tup vs => exact absurd rfl (hn vs)
theorem V.hard1_eq {v : V} (h : v.hard = true) {r : Value} (hr : WR w ι m v r) : r = v.real1 := by
  cases hr with
  | c hr => exact C.hard_eq h hr
  | agg hr =>
    have := L.hard_eq h hr
    simp only [V.real1, ← this]
theorem V.tup_hard {vs : List V} (h : (V.tup vs).hard = true) : ∀ v ∈ vs, v.hard = true ∧ ∀ us, v ≠ .tup us := by
  intro v hv
  have := List.all_eq_true.1 h v hv
  cases v with
  | c x => exact ⟨this, by simp⟩
  | agg cs => exact ⟨this, by simp⟩
  | tup us => simp at this
theorem V.hard_VR {v : V} (h : v.hard = true) : VR w ι m v v.real := by
  cases v with
  | c x => exact .c (C.hard_CR h)
  | agg cs => exact .agg (by simpa using L.hard_AR h)
  | tup vs =>
    refine .tup (by simp) fun j v hj => ?_
    obtain ⟨h1, h2⟩ := V.tup_hard h v (List.mem_of_getElem? hj)
    exact ⟨v.real1, by simp [hj], V.hard_WR h1 h2⟩
theorem V.hard_eq {v : V} (h : v.hard = true) {r : Value} (hr : VR w ι m v r) : r = v.real := by
  cases hr with
  | one hr =>
    have := V.hard1_eq h hr
    cases v with
    | c x => exact this
    | agg cs => exact this
    | tup vs => cases hr
  | @tup vs rs hl hh =>
    simp only [V.real]
    congr 1
    apply Array.ext_getElem?
    intro j
    rcases Nat.lt_or_ge j vs.length with hj | hj
    · obtain ⟨r, h1, h2⟩ := hh j vs[j] (by simp [hj])
      rw [h1, V.hard1_eq (V.tup_hard h _ (by simp)).1 h2]
      simp [hj]
    · rw [Array.getElem?_eq_none (by omega), Array.getElem?_eq_none (by simpa using hj)]

/-! ### Forgetting -/
theorem CR.take {k : Nat} {c : C} {r : Value} (h : CR w ι m c r) (hk : c.refs ≤ k) : CR w ι (m.take k) c r := by
  cases h with
  | junk => exact .junk _
  | undef => exact .undef
  | bool => exact .bool _
  | int => exact .int _ _
  | str => exact .str _
  | nilp => exact .nilp
  | nils => exact .nils
  | fn => exact .fn _
  | clo => exact .clo _ _
  | flat _ hv => exact .flat _ hv
  | ptr h0 hb ht ha hv => exact .ptr h0 (by rw [List.getElem?_take, if_pos (by simp only [C.refs] at hk; omega)]; exact hb) ht ha hv
  | clp f h0 hb ht ha hv => exact .clp f h0 (by rw [List.getElem?_take, if_pos (by simp only [C.refs] at hk; omega)]; exact hb) ht ha hv
  | sl h0 hb ht ha hv => exact .sl h0 (by rw [List.getElem?_take, if_pos (by simp only [C.refs] at hk; omega)]; exact hb) ht ha hv
theorem AR.take {k : Nat} {cs : List C} {rs : List Value} (h : AR w ι m cs rs) (hk : refsL cs ≤ k) : AR w ι (m.take k) cs rs :=
  ⟨h.1, fun j c hj => let ⟨r, h1, h2, h3⟩ := h.2 j c hj; ⟨r, h1, h2.take (refsL_le.1 hk c (List.mem_of_getElem? hj)), h3⟩⟩
theorem WR.take {k : Nat} {v : V} {r : Value} (h : WR w ι m v r) (hk : v.refs ≤ k) : WR w ι (m.take k) v r := by
  cases h with
  | c h => exact .c (h.take hk)
  | agg h => exact .agg (h.take hk)
theorem refsAll_le {vs : List V} {n : Nat} : V.refsAll vs ≤ n ↔ ∀ v ∈ vs, v.refs ≤ n := by
  induction vs with
  | nil => simp [V.refsAll]
  | cons v r ih => simp [V.refsAll, mx_le, ih]
theorem VR.take {k : Nat} {v : V} {r : Value} (h : VR w ι m v r) (hk : v.refs ≤ k) : VR w ι (m.take k) v r := by
  cases h with
  | one h => exact .one (h.take hk)
  | tup hl hh => exact .tup hl fun j v hj => let ⟨r, h1, h2⟩ := hh j v hj; ⟨r, h1, h2.take (refsAll_le.1 hk v (List.mem_of_getElem? hj))⟩

theorem Sim.take {k : Nat} (s : Sim base w ι m) (hk : ∀ (b : Nat) (blk : Blk) (c : C), b < k → m[b]? = some blk → c ∈ blk.cs → c.refs ≤ k) : Sim base w ι (m.take k) := by
  have hget : ∀ b blk, (m.take k)[b]? = some blk → b < k ∧ m[b]? = some blk := by
    intro b blk hb
    rw [List.getElem?_take] at hb
    split at hb
    · exact ⟨by assumption, hb⟩
    · cases hb
  refine ⟨s.le, fun b blk hb ho => ?_, fun b blk hb ho hz => ?_, fun b blk hb ho hz => s.non b blk (hget b blk hb).2 ho hz, fun b b' blk blk' hb hb' ho ho' he => s.inj b b' blk blk' (hget b blk hb).2 (hget b' blk' hb').2 ho ho' he⟩
  · obtain ⟨hlt, hb'⟩ := hget b blk hb
    obtain ⟨h1, h2, rc, h3, h4, h5⟩ := s.own b blk hb' ho
    exact ⟨h1, h2, rc, h3, h4, fun j c hj => let ⟨r, g1, g2, g3⟩ := h5 j c hj; ⟨r, g1, g2.take (hk b blk c hlt hb' (List.mem_of_getElem? hj)), g3⟩⟩
  · obtain ⟨hlt, hb'⟩ := hget b blk hb
    obtain ⟨h1, h2⟩ := s.ro b blk hb' ho hz
    exact ⟨h1, fun j c hj => let ⟨r, g1, g2, g3⟩ := h2 j c hj; ⟨r, g1, g2.take (hk b blk c hlt hb' (List.mem_of_getElem? hj)), g3⟩⟩

theorem MR.take {k : Nat} (h : MR base w0 ι0 m0 w ι m e wr) (hk0 : m0.length ≤ k) (hk : ∀ (b : Nat) (blk : Blk) (c : C), b < k → m[b]? = some blk → c ∈ blk.cs → c.refs ≤ k) : MR base w0 ι0 m0 w ι (m.take k) e wr where
  sim := h.sim.take hk
  evo b blk hb := by
    obtain ⟨blk', h1, h2⟩ := h.evo b blk hb
    have := (List.getElem?_eq_some_iff.1 hb).1
    exact ⟨blk', by rw [List.getElem?_take, if_pos (by omega)]; exact h1, h2⟩
  fr := h.fr
  fresh b blk hb ho hl := by
    rw [List.getElem?_take] at hb
    split at hb
    · exact h.fresh b blk hb ho hl
    · cases hb
  bel := ⟨fun b hb => by rw [List.getElem?_take, if_pos (by omega)]; exact h.bel.1 b hb, h.bel.2⟩
  refs0 := h.refs0
  esc b blk c hb hc := by
    rw [List.getElem?_take] at hb
    split at hb
    · exact h.esc b blk c hb hc
    · cases hb

theorem envRefs_get {env : List (Nat × V)} {n : Nat} (h : envRefs env ≤ n) (t : Nat) : (get env t).refs ≤ n := by
  induction env with
  | nil => simp [get, V.refs, C.refs]
  | cons p r ih =>
    obtain ⟨j, v⟩ := p
    simp only [envRefs, mx_le] at h
    simp only [get]
    split
    · exact h.1
    · exact ih h.2
theorem get_map (env : List (Nat × V)) (ks : List Nat) (t : Nat) : get (ks.map fun k => (k, get env k)) t = if t ∈ ks then get env t else .c .junk := by
  induction ks with
  | nil => simp [get]
  | cons k r ih =>
    simp only [List.map_cons, get, List.mem_cons]
    by_cases h : k = t
    · subst h; simp
    · simp only [if_neg h, ih]
      have : ¬ t = k := fun e => h e.symm
      simp [this]

/-- The whole state's relation. -/
structure SR (P : Program) (base nt : Nat) (w0 : World) (ι0 : Nat → Nat × Nat) (m0 : List Blk) (w : World) (ι : Nat → Nat × Nat) (st : St) (a : Act) : Prop where
  mem : MR base w0 ι0 m0 w ι st.mem st.esc st.wr
  env : EnvR w ι st.mem st.env a
  defers : a.defers = []
  size : a.tmps.size = nt

theorem SR.trim {nt : Nat} (h : SR P base nt w0 ι0 m0 w ι st a) (ks : Option (List Nat)) : SR P base nt w0 ι0 m0 w ι (trim m0.length ks st) a := by
  cases ks with
  | none => exact h
  | some ks =>
    refine ⟨h.mem.take (le_mx_l _ _) fun b blk c hb hm hc => ?_, fun t => ?_, h.defers, h.size⟩
    · have := h.mem.escM hm hc
      rw [mx_eq, mx_eq]
      omega
    · show VR w ι (st.mem.take (mx m0.length (mx st.esc (envRefs (ks.map fun k => (k, get st.env k)))))) (get (ks.map fun k => (k, get st.env k)) t) _
      have h1 : envRefs (ks.map fun k => (k, get st.env k)) ≤ mx m0.length (mx st.esc (envRefs (ks.map fun k => (k, get st.env k)))) := Nat.le_trans (le_mx_r _ _) (le_mx_r _ _)
      refine VR.take ?_ (envRefs_get h1 t)
      rw [get_map]
      split
      · exact h.env t
      · exact .c (.junk _)
end
end Go.Proofs.Ytkoloapgeilbdaa
