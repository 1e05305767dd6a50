/-
  The abstract machine is sound: the end of a function, and calls to a depth.
-/
import Derived.Test.YtkoloapgeilbdaaG
set_option linter.unusedVariables false
set_option linter.unusedSimpArgs false
namespace Go.Proofs.Ytkoloapgeilbdaa
open Go.RowKit

section
variable {P : Program} {base nt : Nat} {w0 w w' : World} {ι0 ι ι' : Nat → Nat × Nat} {m0 m m' : List Blk} {a : Act} {o : Oper} {st : St} {e : Nat} {wr : Nat}
  {call : FuncId → List V → List Blk → Option Ret} {env : List (Nat × V)}

theorem CR.plain {c : C} {r : Value} (h : CR w ι m c r) (hc : c.refs = 0) : CR w ι' m' c r := by
  cases h with
  | junk => exact .junk _
  | undef => exact .undef
  | bool => exact .bool _
  | int => exact .int _ _
  | str => exact .str _
  | nilp => exact .nilp
  | nils => exact .nils
  | fn => exact .fn _
  | clo => exact .clo _ _
  | flat _ hv => exact .flat _ hv
  | ptr => simp [C.refs] at hc
  | clp => simp [C.refs] at hc
  | sl => simp [C.refs] at hc

theorem pickB_some : ∀ {bs : List Nat} {l : List Blk}, pickB m bs = some l → l.length = bs.length ∧ ∀ (j b : Nat), bs[j]? = some b → ∃ blk, m[b]? = some blk ∧ l[j]? = some blk ∧ refsL blk.cs = 0
  | [], l, h => by
    simp only [pickB, Option.some.injEq] at h
    subst h
    exact ⟨rfl, by simp⟩
  | b :: r, l, h => by
    simp only [pickB, Option.bind_eq_some_iff] at h
    obtain ⟨blk, hb, h⟩ := h
    split at h
    · rename_i hr
      simp only [Option.bind_eq_some_iff, Option.some.injEq] at h
      obtain ⟨l', hl, rfl⟩ := h
      obtain ⟨h1, h2⟩ := pickB_some hl
      refine ⟨by simp [h1], fun j b' hj => ?_⟩
      cases j with
      | zero => simp at hj; subst hj; exact ⟨blk, hb, rfl, hr⟩
      | succ j => simpa using h2 j b' (by simpa using hj)
    · cases h

theorem pos_mem : ∀ {bs : List Nat} {n0 b : Nat}, b ∈ bs → ∃ j, bs[j]? = some b ∧ pos n0 bs b = n0 + j
  | [], n0, b, h => by cases h
  | a :: r, n0, b, h => by
    simp only [pos]
    split
    · rename_i e; subst e; exact ⟨0, rfl, rfl⟩
    · rename_i e
      rcases List.mem_cons.1 h with h | h
      · exact absurd h e
      · obtain ⟨j, h1, h2⟩ := pos_mem (n0 := n0 + 1) h
        exact ⟨j + 1, by simpa using h1, by rw [h2]; omega⟩
theorem pos_not : ∀ {bs : List Nat} {n0 b : Nat}, b ∉ bs → pos n0 bs b = b
  | [], n0, b, h => rfl
  | a :: r, n0, b, h => by
    simp only [List.mem_cons, not_or] at h
    simp only [pos, if_neg h.1]
    exact pos_not h.2

theorem nub_mem {l : List Nat} {x : Nat} : x ∈ nub l ↔ x ∈ l := by
  induction l with
  | nil => simp [nub]
  | cons a r ih =>
    simp only [nub, List.mem_cons, List.mem_filter, ih, Bool.not_eq_true', beq_eq_false_iff_ne, ne_eq]
    by_cases h : x = a <;> simp [h]
theorem nub_nodup (l : List Nat) : (nub l).Nodup := by
  induction l with
  | nil => simp [nub]
  | cons a r ih =>
    simp only [nub, List.nodup_cons, List.mem_filter, Bool.not_eq_true', beq_eq_false_iff_ne, ne_eq]
    exact ⟨fun h => h.2 trivial, ih.filter _⟩

theorem C.own_ge {c : C} {n0 b : Nat} (h : b ∈ c.own n0) : n0 ≤ b := by
  unfold C.own at h
  split at h
  · split at h
    · cases h
    · simp only [List.mem_singleton] at h; omega
  · split at h
    · cases h
    · simp only [List.mem_singleton] at h; omega
  · split at h
    · cases h
    · simp only [List.mem_singleton] at h; omega
  · cases h

section ren
variable {n0 : Nat} {bs : List Nat} {l : List Blk}
/-- Where the blocks that stay lie. -/
def keepAt (n0 : Nat) (bs : List Nat) (ι : Nat → Nat × Nat) (j : Nat) : Nat × Nat := if j < n0 then ι j else ι (bs.getD (j - n0) 0)

theorem keep_get (hT : m.take n0 = m0) (hn : m0.length = n0) (hl : pickB m bs = some l) (hge : ∀ b ∈ bs, n0 ≤ b) {b : Nat} {blk : Blk} (hb : m[b]? = some blk) (hin : b < n0 ∨ b ∈ bs) :
    (m0 ++ l)[pos n0 bs b]? = some blk ∧ keepAt n0 bs ι (pos n0 bs b) = ι b := by
  rcases hin with h | h
  · have hnot : b ∉ bs := fun hm => by have := hge b hm; omega
    rw [pos_not hnot]
    refine ⟨?_, by simp [keepAt, h]⟩
    rw [List.getElem?_append_left (by omega), ← hT, List.getElem?_take, if_pos h]
    exact hb
  · obtain ⟨j, h1, h2⟩ := pos_mem (n0 := n0) h
    obtain ⟨blk', g1, g2, g3⟩ := (pickB_some hl).2 j b h1
    rw [hb] at g1
    injection g1 with g1
    subst g1
    rw [h2]
    refine ⟨by rw [List.getElem?_append_right (by omega), hn, Nat.add_sub_cancel_left]; exact g2, ?_⟩
    simp only [keepAt, Nat.add_sub_cancel_left]
    rw [if_neg (by omega), List.getD_eq_getElem?_getD, h1]
    rfl

theorem CR.ren (hT : m.take n0 = m0) (hn : m0.length = n0) (hl : pickB m bs = some l) (hge : ∀ b ∈ bs, n0 ≤ b) {c : C} {r : Value} (h : CR w ι m c r) (hc : ∀ b ∈ c.own n0, b ∈ bs) :
    CR w (keepAt n0 bs ι) (m0 ++ l) (c.ren (pos n0 bs)) r := by
  cases h with
  | junk => exact .junk _
  | undef => exact .undef
  | bool => exact .bool _
  | int => exact .int _ _
  | str => exact .str _
  | nilp => exact .nilp
  | nils => exact .nils
  | fn => exact .fn _
  | clo => exact .clo _ _
  | flat _ hv => exact .flat _ hv
  | @ptr b off tot blk _ h0 hb ht ha hv =>
    have hin : b < n0 ∨ b ∈ bs := by
      rcases Nat.lt_or_ge b n0 with h | h
      · exact .inl h
      · exact .inr (hc b (by simp [C.own]; omega))
    obtain ⟨k1, k2⟩ := keep_get (ι := ι) hT hn hl hge hb hin
    refine .ptr h0 k1 ht ha fun e => ?_
    rw [hv e]
    unfold atA
    rw [k2]
  | @clp f b off tot blk _ h0 hb ht ha hv =>
    have hin : b < n0 ∨ b ∈ bs := by
      rcases Nat.lt_or_ge b n0 with h | h
      · exact .inl h
      · exact .inr (hc b (by simp [C.own]; omega))
    obtain ⟨k1, k2⟩ := keep_get (ι := ι) hT hn hl hge hb hin
    refine .clp f h0 k1 ht ha fun e => ?_
    rw [hv e]
    unfold atA
    rw [k2]
  | @sl b off len tot blk _ h0 hb ht ha hv =>
    have hin : b < n0 ∨ b ∈ bs := by
      rcases Nat.lt_or_ge b n0 with h | h
      · exact .inl h
      · exact .inr (hc b (by simp [C.own]; omega))
    obtain ⟨k1, k2⟩ := keep_get (ι := ι) hT hn hl hge hb hin
    refine .sl h0 k1 ht ha fun e => ?_
    obtain ⟨ad, cap, e1, e5, e2, e3, e4⟩ := hv e
    refine ⟨ad, cap, e1, fun hq => ?_, e2, e3, fun hz ho => by rw [k2]; exact e4 hz ho⟩
    rw [e5 hq]
    unfold atA
    rw [k2]

theorem AR.ren (hT : m.take n0 = m0) (hn : m0.length = n0) (hl : pickB m bs = some l) (hge : ∀ b ∈ bs, n0 ≤ b) {cs : List C} {rs : List Value} (h : AR w ι m cs rs) (hc : ∀ b ∈ cs.flatMap (·.own n0), b ∈ bs) :
    AR w (keepAt n0 bs ι) (m0 ++ l) (cs.map (·.ren (pos n0 bs))) rs := by
  refine ⟨by simp [h.1], fun j c hj => ?_⟩
  simp only [List.getElem?_map, Option.map_eq_some_iff] at hj
  obtain ⟨c0, h0, rfl⟩ := hj
  obtain ⟨r, h1, h2, h3⟩ := h.2 j c0 h0
  exact ⟨r, h1, h2.ren hT hn hl hge (fun b hb => hc b (List.mem_flatMap.2 ⟨c0, List.mem_of_getElem? h0, hb⟩)), h3⟩

theorem VR.ren (hT : m.take n0 = m0) (hn : m0.length = n0) (hl : pickB m bs = some l) (hge : ∀ b ∈ bs, n0 ≤ b) {v : V} {r : Value} (h : VR w ι m v r) (hc : ∀ b ∈ v.own n0, b ∈ bs) :
    VR w (keepAt n0 bs ι) (m0 ++ l) (v.ren (pos n0 bs)) r := by
  cases h with
  | one h =>
    cases h with
    | c h => exact .c (h.ren hT hn hl hge hc)
    | agg h => exact .agg (h.ren hT hn hl hge hc)
  | @tup vs rs hlen hh =>
    refine .tup (by simp [hlen]) fun j v hj => ?_
    simp only [List.getElem?_map, Option.map_eq_some_iff] at hj
    obtain ⟨v0, h0, rfl⟩ := hj
    obtain ⟨r, h1, h2⟩ := hh j v0 h0
    have hc' : ∀ b ∈ (match v0 with | .c x => x.own n0 | .agg cs => cs.flatMap (fun (y : C) => y.own n0) | _ => []), b ∈ bs := fun b hb => hc b (List.mem_flatMap.2 ⟨v0, List.mem_of_getElem? h0, hb⟩)
    refine ⟨r, h1, ?_⟩
    cases h2 with
    | c h2 => exact .c (h2.ren hT hn hl hge hc')
    | agg h2 => exact .agg (h2.ren hT hn hl hge hc')
end ren

theorem V.own_ge {v : V} {n0 b : Nat} (h : b ∈ v.own n0) : n0 ≤ b := by
  cases v with
  | c x => exact C.own_ge h
  | agg cs =>
    obtain ⟨c, _, hc⟩ := List.mem_flatMap.1 h
    exact C.own_ge hc
  | tup vs =>
    obtain ⟨v, _, hv⟩ := List.mem_flatMap.1 h
    cases v with
    | c x => exact C.own_ge hv
    | agg cs =>
      obtain ⟨c, _, hc⟩ := List.mem_flatMap.1 hv
      exact C.own_ge hc
    | tup vs => cases hv

theorem fin_sound (s0 : Sim base w0 ι0 m0) (h : MR base w0 ι0 m0 w ι st.mem st.esc st.wr) {v : V} {r : Value} (hv : VR w ι st.mem v r) :
    RetOk base w0 ι0 m0 (fin m0.length v st) (.returned r) w := by
  have gen : ∀ (k e' : Nat), m0.length ≤ k → st.esc ≤ k → v.refs ≤ k → st.esc ≤ e' → RetOk base w0 ι0 m0 ⟨v, st.mem.take k, e', st.wr⟩ (.returned r) w := by
    intro k e' h1 h2 h3 h4
    have hm := h.take h1 fun b blk c _ hb hc => by have := h.escM hb hc; omega
    exact ⟨r, ι, rfl, hv.take h3, ⟨hm.sim, hm.evo, hm.fr, hm.fresh, hm.bel, hm.refs0, fun b blk c hb hc => (hm.esc b blk c hb hc).imp (fun q => Nat.le_trans q h4) id⟩⟩
  unfold fin
  split
  · rename_i hwr
    have h' := h
    rw [hwr] at h'
    obtain ⟨hB, hT⟩ := h'.below
    have evo_m0 : ∀ (b : Nat) (blk : Blk), m0[b]? = some blk → st.mem[b]? = some blk ∧ (blk.alive → ι b = ι0 b) := by
      intro b blk hb
      have hlt := (List.getElem?_eq_some_iff.1 hb).1
      have hm : st.mem[b]? = some blk := by
        have : (st.mem.take m0.length)[b]? = some blk := by rw [hT]; exact hb
        rw [List.getElem?_take, if_pos hlt] at this
        exact this
      obtain ⟨blk', g1, g⟩ := h.evo b blk hb
      rw [hm] at g1
      injection g1 with g1
      subst g1
      exact ⟨hm, fun ha => ((g ha).2.2.2 rfl).1⟩
    split
    · -- nothing new is handed back
      rename_i hr
      have hm := h.take (k := m0.length) (Nat.le_refl _) fun b blk c hlt hb hc => by
        have hb0 : m0[b]? = some blk := by
          rw [← hT, List.getElem?_take, if_pos hlt]; exact hb
        exact s0.refs_le hb0 hc
      refine ⟨r, ι, rfl, hv.take hr, ⟨hm.sim, hm.evo, hm.fr, hm.fresh, by have := hm.bel; rw [hwr] at this; exact this, hm.refs0, fun b blk c hb hc => ?_⟩⟩
      rw [hT] at hb
      exact .inr ⟨blk, hb, hc⟩
    · split
      · -- what is handed back is flat
        rename_i hr l hl
        generalize hbs : nub (v.own m0.length) = bs at hl
        have hge : ∀ b ∈ bs, m0.length ≤ b := fun b hb => by rw [← hbs] at hb; exact V.own_ge (nub_mem.1 hb)
        have hnd : bs.Nodup := by rw [← hbs]; exact nub_nodup _
        obtain ⟨hll, hlp⟩ := pickB_some hl
        have hget : ∀ (j : Nat) (blk : Blk), (m0 ++ l)[j]? = some blk → (j < m0.length ∧ m0[j]? = some blk) ∨ (m0.length ≤ j ∧ ∃ b, bs[j - m0.length]? = some b ∧ st.mem[b]? = some blk ∧ refsL blk.cs = 0 ∧ keepAt m0.length bs ι j = ι b) := by
          intro j blk hj
          rcases Nat.lt_or_ge j m0.length with hlt | hge'
          · left
            rw [List.getElem?_append_left hlt] at hj
            exact ⟨hlt, hj⟩
          · right
            rw [List.getElem?_append_right hge'] at hj
            have hjl : j - m0.length < bs.length := by rw [← hll]; exact (List.getElem?_eq_some_iff.1 hj).1
            obtain ⟨blk', g1, g2, g3⟩ := hlp (j - m0.length) bs[j - m0.length] (by simp)
            rw [hj] at g2
            injection g2 with g2
            subst g2
            refine ⟨hge', bs[j - m0.length], by simp, g1, g3, ?_⟩
            simp only [keepAt]
            rw [if_neg (by omega)]
            simp [List.getD_eq_getElem?_getD, hjl]
        have hkeep : ∀ j, j < m0.length → keepAt m0.length bs ι j = ι j := fun j hj => by simp [keepAt, hj]
        have cellsOf : ∀ (j : Nat) (blk : Blk), (m0 ++ l)[j]? = some blk → ∃ b, st.mem[b]? = some blk ∧ keepAt m0.length bs ι j = ι b ∧ (∀ (c : C) (r : Value), c ∈ blk.cs → CR w ι st.mem c r → CR w (keepAt m0.length bs ι) (m0 ++ l) c r) ∧ (j < m0.length → b = j) ∧ (m0.length ≤ j → bs[j - m0.length]? = some b) := by
          intro j blk hj
          rcases hget j blk hj with ⟨hlt, hj0⟩ | ⟨hge', b, g1, g2, g3, g4⟩
          · obtain ⟨hm, _⟩ := evo_m0 j blk hj0
            refine ⟨j, hm, hkeep j hlt, fun c r hc hcr => ?_, fun _ => rfl, fun h => by omega⟩
            have hcr' : c.refs ≤ m0.length := s0.refs_le hj0 hc
            have := hcr.ren hT rfl hl hge (fun b hb => by
              exfalso
              have h1 := C.own_ge hb
              unfold C.own at hb
              split at hb <;> simp_all [C.refs] <;> omega)
            have hren : c.ren (pos m0.length bs) = c := by
              cases c <;> simp only [C.ren, C.refs] at hcr' ⊢
              · rw [pos_not (fun hm => by have := hge _ hm; omega)]
              · rw [pos_not (fun hm => by have := hge _ hm; omega)]
              · rw [pos_not (fun hm => by have := hge _ hm; omega)]
            rwa [hren] at this
          · refine ⟨b, g2, g4, fun c r hc hcr => hcr.plain ?_, fun h => by omega, fun _ => g1⟩
            have := refsL_le.1 (Nat.le_of_eq g3) c hc
            omega
        have hsim : Sim base w (keepAt m0.length bs ι) (m0 ++ l) := by
          refine ⟨h.sim.le, fun j blk hj ho => ?_, fun j blk hj ho hz => ?_, fun j blk hj ho hz => by
            obtain ⟨b, b1, _⟩ := cellsOf j blk hj
            exact h.sim.non b blk b1 ho hz, fun j j' blk blk' hj hj' ho ho' he => ?_⟩
          · obtain ⟨b, b1, b2, b3, _⟩ := cellsOf j blk hj
            obtain ⟨h1, h2, rc, h3, h4, h5⟩ := h.sim.own b blk b1 ho
            rw [b2]
            exact ⟨h1, h2, rc, h3, h4, fun k c hk => let ⟨r, q1, q2, q3⟩ := h5 k c hk; ⟨r, q1, b3 c r (List.mem_of_getElem? hk) q2, q3⟩⟩
          · obtain ⟨b, b1, b2, b3, _⟩ := cellsOf j blk hj
            obtain ⟨h1, h2⟩ := h.sim.ro b blk b1 ho hz
            rw [b2]
            refine ⟨h1, fun k c hk => ?_⟩
            obtain ⟨r, q1, q2, q3⟩ := h2 k c hk
            refine ⟨r, ?_, b3 c r (List.mem_of_getElem? hk) q2, q3⟩
            simp only [atA, b2] at q1 ⊢
            exact q1
          · obtain ⟨b, b1, b2, _, b4, b5⟩ := cellsOf j blk hj
            obtain ⟨b', c1, c2, _, c4, c5⟩ := cellsOf j' blk' hj'
            rw [b2, c2] at he
            have hbb := h.sim.inj b b' blk blk' b1 c1 ho ho' he
            subst hbb
            rcases Nat.lt_or_ge j m0.length with h1 | h1 <;> rcases Nat.lt_or_ge j' m0.length with h2 | h2
            · have := b4 h1; have := c4 h2; omega
            · have := b4 h1
              have := hge b (List.mem_of_getElem? (c5 h2))
              omega
            · have := c4 h2
              have := hge b (List.mem_of_getElem? (b5 h1))
              omega
            · have e1 := b5 h1
              have e2 := c5 h2
              have := (List.getElem?_inj (List.getElem?_eq_some_iff.1 e1).1 hnd).1 (e1.trans e2.symm)
              omega
        refine ⟨r, keepAt m0.length bs ι, rfl, ?_, ⟨?_, ?_, h.fr, ?_, ?_, h.refs0, ?_⟩⟩
        · show VR w (keepAt m0.length bs ι) (st.mem.take m0.length ++ l) (v.ren (pos m0.length bs)) r
          rw [hT]
          exact hv.ren hT rfl hl hge (fun b hb => by rw [← hbs]; exact nub_mem.2 hb)
        · show Sim base w (keepAt m0.length bs ι) (st.mem.take m0.length ++ l)
          rw [hT]; exact hsim
        · show Evo w0 ι0 m0 w (keepAt m0.length bs ι) (st.mem.take m0.length ++ l)
          rw [hT]
          intro b blk hb
          have hlt := (List.getElem?_eq_some_iff.1 hb).1
          obtain ⟨blk', g1, g⟩ := h.evo b blk hb
          obtain ⟨q1, q2⟩ := evo_m0 b blk hb
          rw [q1] at g1
          injection g1 with g1
          subst g1
          exact ⟨blk, by rw [List.getElem?_append_left hlt]; exact hb, fun ha => ⟨rfl, rfl, Nat.le_refl _, fun _ => ⟨by rw [hkeep b hlt]; exact q2 ha, ((g ha).2.2.2 rfl).2⟩⟩⟩
        · show Fresh w0 ι0 m0 (keepAt m0.length bs ι) (st.mem.take m0.length ++ l)
          rw [hT]
          intro j blk hj ho hlt
          obtain ⟨b, b1, b2, _⟩ := cellsOf j blk hj
          rw [b2] at hlt ⊢
          exact h.fresh b blk b1 ho hlt
        · refine ⟨fun b hb => ?_, h'.bel.2⟩
          show (st.mem.take m0.length ++ l)[b]? = m0[b]?
          rw [hT, List.getElem?_append_left (by omega)]
        · intro b blk c hb hc
          show c.refs ≤ 0 ∨ _
          have hb' : (m0 ++ l)[b]? = some blk := by rw [← hT]; rw [hT]; simpa [hT] using hb
          rcases hget b blk hb' with ⟨hlt, hj0⟩ | ⟨hge', b', g1, g2, g3, g4⟩
          · exact .inr ⟨blk, hj0, hc⟩
          · exact .inl (refsL_le.1 (Nat.le_of_eq g3) c hc)
      · have := gen (mx m0.length (mx st.esc v.refs)) st.esc (le_mx_l _ _) (by rw [mx_eq, mx_eq]; omega) (by rw [mx_eq, mx_eq]; omega) (Nat.le_refl _)
        rw [hwr] at this
        exact this
  · exact gen (mx m0.length (mx st.esc v.refs)) st.esc (le_mx_l _ _) (by rw [mx_eq, mx_eq]; omega) (by rw [mx_eq, mx_eq]; omega) (Nat.le_refl _)
end
end Go.Proofs.Ytkoloapgeilbdaa
