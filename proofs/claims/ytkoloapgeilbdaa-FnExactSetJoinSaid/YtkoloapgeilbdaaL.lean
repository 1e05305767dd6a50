/-
  The abstract machine is sound: the state's relation, and what a change of one block leaves of it.
-/
import Derived.Test.YtkoloapgeilbdaaQ4
set_option linter.unusedVariables false
set_option linter.unusedSimpArgs false
namespace Go.Proofs.Ytkoloapgeilbdaa
open Go.RowKit

/-- The memory of a state, since the function was entered at (w0, i0, m0). -/
structure MR (base : Nat) (w0 : World) (i0 : Nat → Nat × Nat) (m0 : List Blk) (w : World) (i : Nat → Nat × Nat) (m : List Blk) (esc : Nat) (wr : Nat) : Prop where
  sim : Sim base w i m
  evo : Evo w0 i0 m0 w i m
  fr : Fr w0 i0 m0 w
  fresh : Fresh w0 i0 m0 i m
  bel : (∀ b, b < m0.length - wr → m[b]? = m0[b]?) ∧ ∀ g, g < w0.heap.size → (∀ b blk, m0.length - wr ≤ b → m0[b]? = some blk → blk.own = true → (i0 b).1 ≠ g) → w.heap[g]? = w0.heap[g]?
  refs0 : ∀ (b : Nat) (blk : Blk) (c : C), m0[b]? = some blk → c ∈ blk.cs → c.refs ≤ m0.length
  esc : ∀ (b : Nat) (blk : Blk) (c : C), m[b]? = some blk → c ∈ blk.cs → c.refs ≤ esc ∨ ∃ blk0, m0[b]? = some blk0 ∧ c ∈ blk0.cs

section
variable {base : Nat} {w0 w w' : World} {i0 i : Nat → Nat × Nat} {m0 m m' : List Blk} {e : Nat} {wr : Nat}

theorem CR.refs_le {c : C} {r : Value} (h : CR w i m c r) : c.refs ≤ m.length := by
  cases h with
  | ptr _ hb _ _ => exact (List.getElem?_eq_some_iff.1 hb).1
  | sl _ hb _ _ => exact (List.getElem?_eq_some_iff.1 hb).1
  | clp _ _ hb _ _ => exact (List.getElem?_eq_some_iff.1 hb).1
  | _ => exact Nat.zero_le _
theorem AR.refs_le {cs : List C} {rs : List Value} (h : AR w i m cs rs) : refsL cs ≤ m.length := by
  rw [refsL_le]
  intro c hc
  obtain ⟨j, hj⟩ := List.getElem?_of_mem hc
  obtain ⟨r, _, h2, _⟩ := h.2 j c hj
  exact h2.refs_le
theorem Sim.refs_le (s : Sim base w i m) {b : Nat} {blk : Blk} {c : C} (hb : m[b]? = some blk) (hc : c ∈ blk.cs) : c.refs ≤ m.length := by
  obtain ⟨j, hj⟩ := List.getElem?_of_mem hc
  obtain ⟨r, _, h2, _⟩ := s.cell hb hj
  exact h2.refs_le

theorem MR.start (s : Sim base w i m) : MR base w i m w i m 0 0 where
  sim := s
  evo := Evo.refl _ _ _
  fr := Fr.refl _ _ _
  fresh := Fresh.refl _ _ _
  bel := ⟨fun _ _ => rfl, fun _ _ _ => rfl⟩
  refs0 b blk c hb hc := s.refs_le hb hc
  esc b blk c hb hc := .inr ⟨blk, hb, hc⟩

theorem Evo.len (h : Evo w0 i0 m0 w i m) : m0.length ≤ m.length := by
  rcases Nat.eq_zero_or_pos m0.length with h0 | h0
  · omega
  · obtain ⟨blk', h1, _⟩ := h (m0.length - 1) m0[m0.length - 1] (by simp)
    have := (List.getElem?_eq_some_iff.1 h1).1
    omega

theorem MR.later (h : MR base w0 i0 m0 w i m e wr) (hw : Below w.heap.size w w') : MR base w0 i0 m0 w' i m e wr where
  sim := h.sim.below hw
  evo := h.evo.trans (Evo.below hw h.sim)
  fr := h.fr.trans h.fresh (Fr.of_below hw)
  fresh := h.fresh
  bel := ⟨h.bel.1, fun g hg hn => (hw.block g (Nat.lt_of_lt_of_le hg h.fr.size)).trans (h.bel.2 g hg hn)⟩
  refs0 := h.refs0
  esc := h.esc

/-- One block more, or one block changed. -/
theorem MR.upd (h : MR base w0 i0 m0 w i m e wr) {b g : Nat} {blk' : Blk} {rc : Array Value} {e' : Nat} {wr' : Nat}
    (hm : ∀ j : Nat, m'[j]? = if j = b then some blk' else m[j]?)
    (hos : w'.os = w.os) (htape : w'.tape = w.tape) (hout : w'.output = w.output) (hsize : w.heap.size ≤ w'.heap.size)
    (hblk : ∀ q, q < w.heap.size → w'.heap[q]? = w.heap[q]? ∨ ∃ blk, m[b]? = some blk ∧ blk.own = true ∧ (i b).1 = q)
    (hb : b = m.length ∨ ∃ blk, m[b]? = some blk ∧ blk.own = true ∧ blk'.esz = blk.esz ∧ blk.cs.length ≤ blk'.cs.length ∧ (blk.cs.length = blk'.cs.length → g = (i b).1 ∧ sizeAt w' g = sizeAt w g))
    (hown : blk'.own = true) (hg : g = (i b).1 ∧ b < m.length ∨ w.heap.size ≤ g) (hrc : w'.heap[g]? = some (.cells rc blk'.ty (0, 0))) (hl : blk'.cs.length ≤ rc.size)
    (hcells : ∀ (w'' : World) (i' : Nat → Nat × Nat) (m'' : List Blk), Evo w i m w'' i' m'' → ∀ (j : Nat) (c : C), blk'.cs[j]? = some c → ∃ r, rc[j]? = some r ∧ CR w'' i' m'' c r ∧ r.oneCell' = true)
    (hwr : wr ≤ wr' ∧ m0.length ≤ b + wr') (he : ∀ c ∈ blk'.cs, c.refs ≤ e' ∨ ∃ blk, m[b]? = some blk ∧ c ∈ blk.cs) (hee : e ≤ e') :
    ∃ i', i' b = (g, 0) ∧ (∀ j, j ≠ b → i' j = i j) ∧ Evo w i m w' i' m' ∧ MR base w0 i0 m0 w' i' m' e' wr' := by
  have hble : b ≤ m.length := by
    rcases hb with hb | ⟨blk, hb, _⟩
    · omega
    · have := (List.getElem?_eq_some_iff.1 hb).1; omega
  refine ⟨fun j => if j = b then (g, 0) else i j, by simp, fun j hj => by simp [hj], ?_⟩
  have hbase : base ≤ g := by
    rcases hg with ⟨hg, hlt⟩ | hg
    · rcases hb with hb | ⟨blk, hb, ho, _⟩
      · omega
      · rw [hg]; exact (h.sim.own b blk hb ho).1
    · exact Nat.le_trans h.sim.le hg
  have heq : ∀ q, q < w.heap.size → (∀ blk, m[b]? = some blk → blk.own = true → (i b).1 ≠ q) → w'.heap[q]? = w.heap[q]? := by
    intro q hq hn
    rcases hblk q hq with h1 | ⟨blk, h1, h2, h3⟩
    · exact h1
    · exact absurd h3 (hn blk h1 h2)
  -- another block's place is not touched
  have hother : ∀ j blk, j ≠ b → m[j]? = some blk → blk.alive → (blk.own = true ∨ blk.cs ≠ []) → w'.heap[(i j).1]? = w.heap[(i j).1]? := by
    intro j blk hj hjm ha hne
    refine heq _ (h.sim.block_lt hjm ha hne) fun blk0 h0 ho e0 => ?_
    cases hjo : blk.own with
    | true => exact hj (h.sim.inj j b blk blk0 hjm h0 hjo ho e0.symm)
    | false =>
      have ha' : blk.esz = 0 := by
        rcases ha.or with ha | ha
        · rw [hjo] at ha; cases ha
        · exact ha
      have h1 := (h.sim.ro j blk hjm hjo ha').1 (hne.resolve_left (by simp [hjo]))
      have h2 := (h.sim.own b blk0 h0 ho).1
      omega
  have evo : Evo w i m w' (fun j => if j = b then (g, 0) else i j) m' := by
    intro j blk hj
    by_cases hjb : j = b
    · subst hjb
      rcases hb with hb | ⟨blk0, hb, ho, he0, hl0, hs0⟩
      · have := (List.getElem?_eq_some_iff.1 hj).1; omega
      · rw [hb] at hj
        injection hj with hj
        subst hj
        refine ⟨blk', by rw [hm]; simp, fun _ => ⟨hown.trans ho.symm, he0, hl0, fun e1 => ?_⟩⟩
        obtain ⟨g1, g2⟩ := hs0 e1
        have h2 := (h.sim.own j blk0 hb ho).2.1
        refine ⟨?_, fun _ => ?_⟩
        · simp only [if_true]
          rw [g1]
          exact Prod.ext rfl h2.symm
        · rw [← g1]
          exact g2
    · refine ⟨blk, by rw [hm]; simp [hjb, hj], fun ha => ⟨rfl, rfl, Nat.le_refl _, fun _ => ⟨by simp [hjb], fun hz => ?_⟩⟩⟩
      unfold sizeAt
      rw [hother j blk hjb hj ha (ha.or.imp id fun e => by omega)]
  have hmem : ∀ j blk, j ≠ b → m'[j]? = some blk → m[j]? = some blk := by
    intro j blk hj h1
    rw [hm] at h1
    simpa [hj] using h1
  have hmb : ∀ blk, m'[b]? = some blk → blk = blk' := by
    intro blk h1
    rw [hm] at h1
    simp only [if_true] at h1
    injection h1 with h1
    exact h1.symm
  have hglt : g < w'.heap.size := (Array.getElem?_eq_some_iff.1 hrc).1
  have sim : Sim base w' (fun j => if j = b then (g, 0) else i j) m' := by
    refine ⟨Nat.le_trans h.sim.le hsize, ?_, ?_, ?_, ?_⟩
    · intro j blk hj ho
      by_cases hjb : j = b
      · subst hjb
        obtain rfl := hmb blk hj
        simp only [if_true]
        exact ⟨hbase, trivial, rc, hrc, hl, hcells _ _ _ evo⟩
      · have hj' := hmem j blk hjb hj
        obtain ⟨h1, h2, rc', h3, h4, h5⟩ := h.sim.own j blk hj' ho
        simp only [if_neg hjb]
        refine ⟨h1, h2, rc', (hother j blk hjb hj' ⟨.inl ho⟩ (.inl ho)).trans h3, h4, fun k c hk => ?_⟩
        obtain ⟨r, g1, g2, g3⟩ := h5 k c hk
        exact ⟨r, g1, g2.evo evo, g3⟩
    · intro j blk hj ho hz
      by_cases hjb : j = b
      · subst hjb
        obtain rfl := hmb blk hj
        rw [hown] at ho
        cases ho
      · have hj' := hmem j blk hjb hj
        obtain ⟨h1, h2⟩ := h.sim.ro j blk hj' ho hz
        simp only [if_neg hjb]
        refine ⟨h1, fun k c hk => ?_⟩
        obtain ⟨r, g1, g2, g3⟩ := h2 k c hk
        refine ⟨r, ?_, g2.evo evo, g3⟩
        simp only [atA, if_neg hjb] at *
        rw [← g1]
        unfold World.cell?
        rw [hother j blk hjb hj' ⟨.inr hz⟩ (.inr fun e => by rw [e] at hk; cases hk)]
    · intro j blk hj ho hz
      by_cases hjb : j = b
      · subst hjb
        obtain rfl := hmb blk hj
        rw [hown] at ho
        cases ho
      · exact h.sim.non j blk (hmem j blk hjb hj) ho hz
    · intro j j' blk blk1 hj hj' ho ho' e0
      by_cases hjb : j = b
      · by_cases hjb' : j' = b
        · omega
        · exfalso
          have hj1 := hmem j' blk1 hjb' hj'
          simp only [hjb, if_true, if_neg hjb'] at e0
          rcases hg with ⟨hg, hlt⟩ | hg
          · rcases hb with hb | ⟨blk0, hb, hbo, _⟩
            · omega
            · exact hjb' (h.sim.inj j' b blk1 blk0 hj1 hb ho' hbo (by omega))
          · have := h.sim.block_lt hj1 ⟨.inl ‹_›⟩ (.inl ‹_›)
            omega
      · by_cases hjb' : j' = b
        · exfalso
          have hj1 := hmem j blk hjb hj
          simp only [hjb', if_true, if_neg hjb] at e0
          rcases hg with ⟨hg, hlt⟩ | hg
          · rcases hb with hb | ⟨blk0, hb, hbo, _⟩
            · omega
            · exact hjb (h.sim.inj j b blk blk0 hj1 hb ho hbo (by omega))
          · have := h.sim.block_lt hj1 ⟨.inl ‹_›⟩ (.inl ‹_›)
            omega
        · simp only [if_neg hjb, if_neg hjb'] at e0
          exact h.sim.inj j j' blk blk1 (hmem j blk hjb hj) (hmem j' blk1 hjb' hj') ho ho' e0
  refine ⟨evo, sim, h.evo.trans evo, ?_, ?_, ?_, h.refs0, ?_⟩
  · refine h.fr.trans h.fresh ⟨hos, htape, hout, hsize, fun q hq hn => heq q hq fun blk h1 h2 => hn b blk h1 h2⟩
  · refine Fresh.trans h.fr.size h.fresh fun j blk hj ho hlt => ?_
    by_cases hjb : j = b
    · subst hjb
      simp only [if_true] at hlt ⊢
      rcases hg with ⟨hg, hlt'⟩ | hg
      · rcases hb with hb | ⟨blk0, hb, hbo, _⟩
        · omega
        · exact ⟨j, blk0, hb, hbo, hg.symm⟩
      · omega
    · simp only [if_neg hjb] at hlt ⊢
      exact ⟨j, blk, hmem j blk hjb hj, ho, rfl⟩
  · refine ⟨fun j hj => ?_, fun q hq hn => ?_⟩
    · rw [hm, if_neg (by omega)]
      exact h.bel.1 j (by omega)
    · rw [← h.bel.2 q hq fun b' blk hb' hm' ho => hn b' blk (by omega) hm' ho]
      refine heq q (Nat.lt_of_lt_of_le hq h.fr.size) fun blk h1 h2 h3 => ?_
      obtain ⟨b1, blk1, g1, g2, g3⟩ := h.fresh b blk h1 h2 (by omega)
      have hb1 : b1 < m0.length := (List.getElem?_eq_some_iff.1 g1).1
      have hlt : b1 < m0.length - wr' := Classical.byContradiction fun hc => hn b1 blk1 (by omega) g1 g2 (by omega)
      have hm1 : m[b1]? = some blk1 := (h.bel.1 b1 (by omega)).trans g1
      obtain ⟨blk2, k1, k⟩ := h.evo b1 blk1 g1
      obtain ⟨k2, k3, k4, k5⟩ := k ⟨.inl g2⟩
      rw [hm1] at k1
      injection k1 with k1
      subst k1
      have k6 := (k5 rfl).1
      have := h.sim.inj b1 b blk1 blk hm1 h1 g2 h2 (by rw [k6]; exact g3)
      omega
  · intro j blk c hj hc
    by_cases hjb : j = b
    · subst hjb
      obtain rfl := hmb blk hj
      rcases he c hc with h1 | ⟨blk1, h1, h2⟩
      · exact .inl h1
      · rcases h.esc j blk1 c h1 h2 with h3 | h3
        · exact .inl (by omega)
        · exact .inr h3
    · rcases h.esc j blk c (hmem j blk hjb hj) hc with h3 | h3
      · exact .inl (by omega)
      · exact .inr h3
theorem MR.below (h : MR base w0 i0 m0 w i m e 0) : Below w0.heap.size w0 w ∧ m.take m0.length = m0 := by
  refine ⟨⟨h.fr.os, h.fr.tape, h.fr.output, h.fr.size, fun g hg => h.bel.2 g hg fun b blk hb hm _ => absurd (List.getElem?_eq_some_iff.1 hm).1 (by omega)⟩, ?_⟩
  apply List.ext_getElem?
  intro j
  rw [List.getElem?_take]
  split
  · exact h.bel.1 j (by omega)
  · exact (List.getElem?_eq_none (by omega)).symm
theorem MR.escM (h : MR base w0 i0 m0 w i m e wr) {b : Nat} {blk : Blk} {c : C} (hb : m[b]? = some blk) (hc : c ∈ blk.cs) : c.refs ≤ max m0.length e := by
  rcases h.esc b blk c hb hc with h1 | ⟨blk0, h1, h2⟩
  · omega
  · have := h.refs0 b blk0 c h1 h2
    omega
end
end Go.Proofs.Ytkoloapgeilbdaa
