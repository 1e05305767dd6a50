/-
  Regions whose order is open and that make or write memory: two operations that look after what they do with memory may change places.
-/
import Derived.Test.YtkoloapgeilbdaaFr
set_option linter.unusedVariables false
set_option linter.unusedSimpArgs false
namespace Go.Proofs.Ytkoloapgeilbdaa

section
variable {call : FuncId → List V → List Blk → Option Ret} {n0 n : Nat} {m m2 : List Blk} {env env2 : List (Nat × V)}

/-- What an operation does to the memory. -/
inductive Dl where
  | no
  | st (b off : Nat) (cs : List C) (r w : Nat)
  | wh (p : Nat) (blk : Blk) (r w : Nat)
def Dl.mem : Dl → List Blk → List Blk
  | .no, m => m
  | .st b off cs _ _, m => match m[b]? with
    | some blk => m.set b { blk with cs := lay blk.cs off cs }
    | none => m
  | .wh p blk _ _, m => m.set p blk
def Dl.r : Dl → Nat
  | .no => 0
  | .st _ _ _ r _ => r
  | .wh _ _ r _ => r
def Dl.w : Dl → Nat
  | .no => 0
  | .st _ _ _ _ w => w
  | .wh _ _ _ w => w
def Dl.app (d : Dl) (st : St) : St := ⟨st.env, d.mem st.mem, mx st.esc d.r, mx st.wr d.w⟩
def shape (m : List Blk) (b : Nat) : Option (Nat × TypeId × Nat × Bool) := (m[b]?).map fun blk => (blk.cs.length, blk.ty, blk.esz, blk.own)
def cellAt (m : List Blk) (b j : Nat) : Option C := (m[b]?).bind fun blk => blk.cs[j]?
/-- Two memories that agree on what an operation looks at. -/
structure Agree (F : Foot) (m m2 : List Blk) : Prop where
  len : m.length = m2.length
  sr : ∀ b ∈ F.sr, shape m b = shape m2 b
  cr : ∀ x ∈ F.cr, ∀ j, x.2.1 ≤ j → j < x.2.1 + x.2.2 → cellAt m x.1 j = cellAt m2 x.1 j
  sw : ∀ b ∈ F.sw, m[b]? = m2[b]?
/-- What is done lies within what was told. -/
def Dl.within (F : Foot) (m : List Blk) : Dl → Prop
  | .no => True
  | .st b off cs _ _ => (b, off, cs.length) ∈ F.cw ∧ b ∈ F.sr ∧ ∃ blk, m[b]? = some blk ∧ off + cs.length ≤ blk.cs.length
  | .wh p _ _ _ => p ∈ F.sw

theorem lay_get {cs new : List C} {off j : Nat} (h : off + new.length ≤ cs.length) : (lay cs off new)[j]? = if off ≤ j ∧ j < off + new.length then new[j - off]? else cs[j]? := by
  unfold lay
  rw [List.append_assoc]
  rcases Nat.lt_or_ge j off with h1 | h1
  · rw [if_neg (by omega), List.getElem?_append_left (by simp; omega), List.getElem?_take, if_pos h1]
  · rw [List.getElem?_append_right (by simp; omega)]
    have : (List.take off cs).length = off := by simp; omega
    rw [this]
    rcases Nat.lt_or_ge j (off + new.length) with h2 | h2
    · rw [if_pos ⟨h1, h2⟩, List.getElem?_append_left (by omega)]
    · rw [if_neg (by omega), List.getElem?_append_right (by omega), List.getElem?_drop]
      congr 1; omega
theorem lay_len {cs new : List C} {off : Nat} (h : off + new.length ≤ cs.length) : (lay cs off new).length = cs.length := by
  unfold lay; simp; omega
theorem lay_comm {cs a b : List C} {i j : Nat} (ha : i + a.length ≤ cs.length) (hb : j + b.length ≤ cs.length) (hd : i + a.length ≤ j ∨ j + b.length ≤ i) : lay (lay cs i a) j b = lay (lay cs j b) i a := by
  apply List.ext_getElem?
  intro k
  rw [lay_get (cs := lay cs i a) (by rw [lay_len ha]; exact hb), lay_get ha, lay_get (cs := lay cs j b) (by rw [lay_len hb]; exact ha), lay_get hb]
  by_cases h1 : i ≤ k ∧ k < i + a.length
  · by_cases h2 : j ≤ k ∧ k < j + b.length
    · omega
    · rw [if_neg h2, if_pos h1, if_pos h1]
  · by_cases h2 : j ≤ k ∧ k < j + b.length
    · rw [if_pos h2, if_neg h1, if_pos h2]
    · rw [if_neg h2, if_neg h1, if_neg h1, if_neg h2]

theorem live_shape {b tot : Nat} (h : shape m b = shape m2 b) {blk : Blk} (hl : live m b tot = some blk) : ∃ blk2, live m2 b tot = some blk2 ∧ m[b]? = some blk ∧ m2[b]? = some blk2 ∧ blk2.cs.length = blk.cs.length ∧ blk2.ty = blk.ty ∧ blk2.esz = blk.esz ∧ blk2.own = blk.own := by
  unfold live at hl
  simp only [Option.bind_eq_some_iff] at hl
  obtain ⟨blk', h1, hl⟩ := hl
  split at hl
  · rename_i ht
    injection hl with hl
    subst hl
    unfold shape at h
    rw [h1] at h
    simp only [Option.map_some] at h
    cases h2 : m2[b]? with
    | none => rw [h2] at h; cases h
    | some blk2 =>
      rw [h2] at h
      simp only [Option.map_some, Option.some.injEq, Prod.mk.injEq] at h
      obtain ⟨e1, e2, e3, e4⟩ := h
      refine ⟨blk2, ?_, h1, rfl, e1.symm, e2.symm, e3.symm, e4.symm⟩
      unfold live
      rw [h2, Option.bind_some, if_pos (by omega)]
  · cases hl

theorem live_none {b tot : Nat} (h : shape m b = shape m2 b) (hl : live m b tot = none) : live m2 b tot = none := by
  cases h2 : live m2 b tot with
  | none => rfl
  | some blk2 =>
    obtain ⟨blk, h3, _⟩ := live_shape h.symm h2
    rw [hl] at h3; cases h3

/-- Cells read, in two memories that agree on them. -/
theorem take_agree {b off k : Nat} {blk blk2 : Blk} (h1 : m[b]? = some blk) (h2 : m2[b]? = some blk2) (hl : blk2.cs.length = blk.cs.length) (hc : ∀ j, off ≤ j → j < off + k → cellAt m b j = cellAt m2 b j) :
    (blk.cs.drop off).take k = (blk2.cs.drop off).take k := by
  apply List.ext_getElem?
  intro j
  rw [List.getElem?_take, List.getElem?_take]
  split
  · rename_i hj
    rw [List.getElem?_drop, List.getElem?_drop]
    have := hc (off + j) (by omega) (by omega)
    simpa [cellAt, h1, h2] using this
  · rfl

/-- What looks at memory tells the same where the memories agree. -/
theorem stepQ_frame {i : I} {q : Nat} (ha : Agree (foot env q i) m m2) {v : V} (hs : stepQ env m i = some v) : stepQ env m2 i = some v := by
  cases i with
  | load1 a =>
    simp only [stepQ, foot] at *
    split at hs
    · rename_i b off tot hp
      rw [hp] at ha
      simp only [Option.bind_eq_some_iff] at hs
      obtain ⟨blk, hl, c, hc, hs⟩ := hs
      obtain ⟨blk2, k1, k2, k3, k4, _⟩ := live_shape (ha.sr b (by simp [V.blk])) hl
      have := ha.cr (b, off, 1) (by simp [V.rng]) off (Nat.le_refl _) (by simp)
      simp only [cellAt, k2, k3, Option.bind_some, hc] at this
      simp only [k1, Option.bind_some, ← this]
      exact hs
    · cases hs
  | loadN a k =>
    simp only [stepQ, foot, guard'] at *
    split at hs
    · rename_i b off tot hp
      rw [hp] at ha
      simp only [Option.bind_eq_some_iff] at hs
      obtain ⟨blk, hl, hs⟩ := hs
      obtain ⟨blk2, k1, k2, k3, k4, _⟩ := live_shape (ha.sr b (by simp [V.blk])) hl
      have := take_agree (off := off) (k := k) k2 k3 k4 (ha.cr (b, off, k) (by simp [V.rng]))
      simp only [k1, Option.bind_some, k4, ← this]
      exact hs
    · cases hs
  | fld a f =>
    simp only [stepQ, foot] at *
    split at hs
    · rename_i b off tot hp
      rw [hp] at ha
      simp only [Option.bind_eq_some_iff] at hs
      obtain ⟨blk, hl, hs⟩ := hs
      obtain ⟨blk2, k1, _⟩ := live_shape (ha.sr b (by simp [V.blk])) hl
      simp only [k1, Option.bind_some]; exact hs
    · cases hs
  | chk a =>
    simp only [stepQ, foot] at *
    split at hs
    · rename_i b off tot hp
      rw [hp] at ha
      simp only [Option.bind_eq_some_iff] at hs
      obtain ⟨blk, hl, hs⟩ := hs
      obtain ⟨blk2, k1, _⟩ := live_shape (ha.sr b (by simp [V.blk])) hl
      simp only [k1, Option.bind_some]; exact hs
    · cases hs
  | ixa a y l e =>
    simp only [stepQ, foot] at *
    split at hs
    · rename_i b off tot _ _ hp hy
      rw [hp] at ha
      simp only [Option.bind_eq_some_iff] at hs
      obtain ⟨blk, hl, hs⟩ := hs
      obtain ⟨blk2, k1, _⟩ := live_shape (ha.sr b (by simp [V.blk])) hl
      simp only [k1, Option.bind_some]; exact hs
    · cases hs
  | ixs a y e =>
    simp only [stepQ, foot] at *
    split at hs
    · rename_i b off len tot _ _ hp hy
      rw [hp] at ha
      simp only [Option.bind_eq_some_iff] at hs
      obtain ⟨blk, hl, hs⟩ := hs
      obtain ⟨blk2, k1, _⟩ := live_shape (ha.sr b (by simp [V.blk])) hl
      simp only [k1, Option.bind_some]; exact hs
    · cases hs
  | nil ne a =>
    simp only [stepQ, foot] at *
    split at hs
    · exact hs
    · rename_i b off len tot hp
      rw [hp] at ha
      simp only [Option.bind_eq_some_iff] at hs
      obtain ⟨blk, hl, hs⟩ := hs
      obtain ⟨blk2, k1, _⟩ := live_shape (ha.sr b (by simp [V.blk])) hl
      simp only [k1, Option.bind_some]; exact hs
    · cases hs
  | len a =>
    simp only [stepQ, foot] at *
    split at hs
    · exact hs
    · rename_i b off len tot hp
      rw [hp] at ha
      simp only [Option.bind_eq_some_iff] at hs
      obtain ⟨blk, hl, hs⟩ := hs
      obtain ⟨blk2, k1, _⟩ := live_shape (ha.sr b (by simp [V.blk])) hl
      simp only [k1, Option.bind_some]; exact hs
    · cases hs
  | sla a k e lo hi =>
    simp only [stepQ, foot, guard'] at *
    split at hs
    · rename_i b off tot hp
      rw [hp] at ha
      simp only [Option.bind_eq_some_iff] at hs
      obtain ⟨blk, hl, hs⟩ := hs
      obtain ⟨blk2, k1, _, _, _, _, k5, _⟩ := live_shape (ha.sr b (by simp [V.blk])) hl
      simp only [k1, Option.bind_some, k5]; exact hs
    · cases hs
  | sls a e lo hi =>
    simp only [stepQ, foot, guard'] at *
    split at hs
    · rename_i b off len tot hp
      rw [hp] at ha
      simp only [Option.bind_eq_some_iff] at hs
      obtain ⟨blk, hl, hs⟩ := hs
      obtain ⟨blk2, k1, _, _, _, _, k5, _⟩ := live_shape (ha.sr b (by simp [V.blk])) hl
      simp only [k1, Option.bind_some, k5]; exact hs
    · exact hs
    · cases hs
  | _ => exact hs

theorem src_frame {esz : Nat} {x : Opd} (hs : ∀ b ∈ (x.ev env).blk, shape m b = shape m2 b) (hc : ∀ r ∈ (x.ev env).srng esz, ∀ j, r.2.1 ≤ j → j < r.2.1 + r.2.2 → cellAt m r.1 j = cellAt m2 r.1 j)
    {p : Nat × List C} (h : src env m esz x = some p) : src env m2 esz x = some p := by
  simp only [src, guard'] at *
  split at h
  · exact h
  · rename_i b off k tot hp
    rw [hp] at hs hc
    simp only [Option.bind_eq_some_iff] at h
    obtain ⟨blk, hl, h⟩ := h
    obtain ⟨blk2, k1, k2, k3, k4, _⟩ := live_shape (hs b (by simp [V.blk])) hl
    have := take_agree (off := off) (k := k * esz) k2 k3 k4 (hc (b, off, k * esz) (by simp [V.srng]))
    simp only [k1, Option.bind_some, k4, ← this]
    exact h
  · cases h

theorem set_get_ne {b p : Nat} {blk : Blk} (h : p ≠ b) : (m.set p blk)[b]? = m[b]? := List.getElem?_set_ne h
theorem stepQ_state {i : I} {st st1 : St} {v : V} (h : (stepQ st.env st.mem i).bind (fun v => some (v, st)) = some (v, st1)) : st1 = st ∧ stepQ st.env st.mem i = some v := by
  simp only [Option.bind_eq_some_iff, Option.some.injEq, Prod.mk.injEq] at h
  obtain ⟨v', h1, rfl, rfl⟩ := h
  exact ⟨rfl, h1⟩
theorem Dl.no_app (st : St) : Dl.no.app st = st := by
  simp [Dl.app, Dl.mem, Dl.r, Dl.w, mx_eq]


/-- An operation of the classes 1 and 2 does a thing within its foot, and does the same on every memory that agrees on it. -/
def Frm (f : St → Option (V × St)) (F : Foot) (st : St) (v : V) (st1 : St) : Prop :=
  ∃ d : Dl, st1 = d.app st ∧ d.within F st.mem ∧ ∀ st2, st2.env = st.env → Agree F st.mem st2.mem → f st2 = some (v, d.app st2)

theorem frm_quiet {i : I} {q : Nat} {st st1 : St} {v : V} (h : (stepQ st.env st.mem i).bind (fun v => some (v, st)) = some (v, st1)) : Frm (fun st => (stepQ st.env st.mem i).bind (fun v => some (v, st))) (foot st.env q i) st v st1 := by
  obtain ⟨rfl, h1⟩ := stepQ_state h
  refine ⟨.no, (Dl.no_app _).symm, trivial, fun st2 he ha => ?_⟩
  rw [Dl.no_app]
  simp only [he, stepQ_frame ha h1, Option.bind_some]

theorem frm_place {o : EOp} {st st1 : St} {v : V} (hm : o.op.i.makes = true) (hs : stepE call n0 n o st = some (v, st1)) : Frm (stepE call n0 n o) (foot st.env (n + o.p) o.op.i) st v st1 := by
  have hf : (foot st.env (n + o.p) o.op.i) = ⟨[], [], [], [n + o.p]⟩ := by
    cases hi : o.op.i <;> rw [hi] at hm <;> first | (cases hm; done) | rfl
  rw [hf]
  unfold stepE at hs
  rw [if_pos hm] at hs
  simp only [Option.bind_eq_some_iff] at hs
  obtain ⟨r, hr, hs⟩ := hs
  have key : ∃ blk e, r.2.mem = [blk] ∧ r.2.esc = mx st.esc e ∧ ∀ st2 : St, st2.env = st.env → stepL call n0 { st2 with mem := [] } o.op.i = some (r.1, { st2 with mem := [blk], esc := mx st2.esc e }) := by
    cases hi : o.op.i with
    | alloc z ty =>
      rw [hi] at hr
      simp only [stepL, Option.some.injEq] at hr
      subst hr
      exact ⟨_, _, rfl, rfl, fun st2 he => rfl⟩
    | box x ty =>
      rw [hi] at hr
      simp only [stepL, Option.bind_eq_some_iff, Option.some.injEq] at hr
      obtain ⟨z, hz, rfl⟩ := hr
      refine ⟨_, _, rfl, rfl, fun st2 he => ?_⟩
      simp only [stepL, he, hz, Option.bind_some]; rfl
    | mks k z ty bytes =>
      rw [hi] at hr
      simp only [stepL, Option.bind_eq_some_iff, guard'] at hr
      obtain ⟨l, hl, hr⟩ := hr
      split at hr
      · rename_i hc
        injection hr with hr
        subst hr
        refine ⟨_, _, rfl, rfl, fun st2 he => ?_⟩
        simp only [stepL, he, hl, Option.bind_some, guard', if_pos hc]; rfl
      · cases hr
    | lit k esz z ps ty =>
      rw [hi] at hr
      simp only [stepL, guard'] at hr
      split at hr
      · rename_i hc
        simp only [Option.bind_eq_some_iff] at hr
        obtain ⟨cs, hcs, hr⟩ := hr
        split at hr
        · rename_i hc2
          injection hr with hr
          subst hr
          refine ⟨_, _, rfl, rfl, fun st2 he => ?_⟩
          simp only [stepL, he, hcs, Option.bind_some, guard', if_pos hc, if_pos hc2]; rfl
        · cases hr
      · cases hr
    | _ => rw [hi] at hm; cases hm
  obtain ⟨blk, e, k1, k2, k3⟩ := key
  have hdead : ∀ st2 : St, Agree ⟨[], [], [], [n + o.p]⟩ st.mem st2.mem → isDead st2.mem (n + o.p) = isDead st.mem (n + o.p) := fun st2 ha => by
    unfold isDead
    rw [ha.sw (n + o.p) (by simp)]
  simp only [place, k1, guard', k2] at hs
  split at hs
  · rename_i _ hr1
    split at hs
    · rename_i hd
      injection hs with hs
      injection hs with h1 h2
      subst h1; subst h2
      refine ⟨.wh (n + o.p) blk e 0, by simp [Dl.app, Dl.mem, Dl.r, Dl.w, mx_eq], by simp [Dl.within], fun st2 he ha => ?_⟩
      unfold stepE
      rw [if_pos hm, k3 st2 he, Option.bind_some]
      simp only [place, hr1, guard']
      rw [if_pos (by rw [hdead st2 ha, ← ha.len]; exact hd)]
      simp [Dl.app, Dl.mem, Dl.r, Dl.w, mx_eq]
    · cases hs
  · rename_i _ hr1
    split at hs
    · rename_i hd
      injection hs with hs
      injection hs with h1 h2
      subst h1; subst h2
      refine ⟨.wh (n + o.p) blk e 0, by simp [Dl.app, Dl.mem, Dl.r, Dl.w, mx_eq], by simp [Dl.within], fun st2 he ha => ?_⟩
      unfold stepE
      rw [if_pos hm, k3 st2 he, Option.bind_some]
      simp only [place, hr1, guard']
      rw [if_pos (by rw [hdead st2 ha, ← ha.len]; exact hd)]
      simp [Dl.app, Dl.mem, Dl.r, Dl.w, mx_eq]
    · cases hs
  · cases hs

theorem frm_store {a x : Opd} {k q : Nat} {st st1 : St} {v : V} (hs : stepL call n0 st (.store a x k) = some (v, st1)) : Frm (fun st => stepL call n0 st (.store a x k)) (foot st.env q (.store a x k)) st v st1 := by
  simp only [stepL, guard', wrt] at hs
  split at hs
  · rename_i b off tot hp
    simp only [Option.bind_eq_some_iff] at hs
    obtain ⟨cs, hcs, hs⟩ := hs
    split at hs
    · rename_i hk
      simp only [Option.bind_eq_some_iff] at hs
      obtain ⟨st', ⟨blk, hl, hst⟩, hs⟩ := hs
      split at hst
      · rename_i hc
        injection hst with hst; subst hst
        injection hs with hs
        injection hs with h1 h2
        subst h1; subst h2
        obtain ⟨_, _, g2, _⟩ := live_shape (m2 := st.mem) (rfl : shape st.mem b = shape st.mem b) hl
        refine ⟨.st b off cs (refsL cs) (n0 - b), by simp [Dl.app, Dl.mem, Dl.r, Dl.w, g2], ⟨by simp [foot, hp, V.rng, hk], by simp [foot, hp, V.blk], blk, g2, hc.2⟩, fun st2 he ha => ?_⟩
        obtain ⟨blk2, k1, _, k3, k4, k5, k6, k7⟩ := live_shape (ha.sr b (by simp [foot, hp, V.blk])) hl
        simp only [stepL, he, hp, hcs, Option.bind_some, guard', if_pos hk, wrt, k1]
        rw [if_pos (by rw [k7, k4]; exact hc)]
        simp [Dl.app, Dl.mem, Dl.r, Dl.w, k3, he]
      · cases hst
    · cases hs
  · cases hs

theorem frm_app {s x : Opd} {ty : TypeId} {esz bytes q : Nat} {st st1 : St} {v : V} (hn : nilApp st.env (.app s x ty esz bytes) = false) (hs : stepL call n0 st (.app s x ty esz bytes) = some (v, st1)) : Frm (fun st => stepL call n0 st (.app s x ty esz bytes)) (foot st.env q (.app s x ty esz bytes)) st v st1 := by
  simp only [stepL, guard', Option.bind_eq_some_iff] at hs
  obtain ⟨p, hp, hs⟩ := hs
  have hsrc : ∀ st2 : St, st2.env = st.env → Agree (foot st.env q (.app s x ty esz bytes)) st.mem st2.mem → src st2.env st2.mem esz x = some p := fun st2 he ha => by
    rw [he]
    exact src_frame (fun b hb => ha.sr b (by simp [foot, hb])) (fun r hr => ha.cr r (by simpa [foot] using hr)) hp
  split at hs
  · rename_i hsv
    have hp0 : p.1 = 0 := by
      simp only [nilApp, hsv] at hn
      unfold src at hp
      split at hp
      · injection hp with hp; rw [← hp]
      · rename_i b off k tot hx
        rw [hx] at hn
        cases k with
        | zero =>
          simp only [Option.bind_eq_some_iff, guard'] at hp
          obtain ⟨_, _, hp⟩ := hp
          split at hp
          · injection hp with hp; rw [← hp]
          · cases hp
        | succ k => cases hn
      · cases hp
    rw [if_pos hp0] at hs
    injection hs with hs
    injection hs with h1 h2
    subst h1; subst h2
    refine ⟨.no, (Dl.no_app _).symm, trivial, fun st2 he ha => ?_⟩
    rw [Dl.no_app]
    have h3 := hsrc st2 he ha
    rw [he] at h3
    simp only [stepL, he, h3, Option.bind_some, hsv, if_pos hp0]
  · rename_i b off len tot hsv
    simp only [Option.bind_eq_some_iff] at hs
    obtain ⟨blk, hl, hs⟩ := hs
    split at hs
    · rename_i hc
      injection hs with hs
      injection hs with h1 h2
      subst h1; subst h2
      refine ⟨.wh b { blk with cs := blk.cs ++ p.2 } (refsL p.2) (n0 - b), by simp [Dl.app, Dl.mem, Dl.r, Dl.w], by simp [Dl.within, foot, hsv, V.blk], fun st2 he ha => ?_⟩
      have h2 := ha.sw b (by simp [foot, hsv, V.blk])
      have hl2 : live st2.mem b tot = some blk := by unfold live at *; rw [← h2]; exact hl
      have h3 := hsrc st2 he ha
      rw [he] at h3
      simp only [stepL, he, h3, Option.bind_some, hsv, hl2, guard', if_pos hc]
      simp [Dl.app, Dl.mem, Dl.r, Dl.w, he]
    · cases hs
  · cases hs

/-- Every operation but a call keeps to its foot. -/
theorem stepE_frm {o : EOp} {st st1 : St} {v : V} (hc : o.op.i.cls = 1 ∨ o.op.i.cls = 2) (hs : stepE call n0 n o st = some (v, st1)) : Frm (stepE call n0 n o) (foot st.env (n + o.p) o.op.i) st v st1 := by
  cases hm : o.op.i.makes with
  | true => exact frm_place hm hs
  | false =>
    have hml : o.ml = false := by
      cases hml : o.ml with
      | false => rfl
      | true =>
        exfalso
        unfold stepE at hs
        simp only [hm, hml, Bool.false_eq_true, if_false, if_true] at hs
        split at hs
        · rename_i hi; rw [hi] at hc; simp [I.cls] at hc
        · rename_i hi; rw [hi] at hc; simp [I.cls] at hc
        · cases hs
    have hE : ∀ st2, stepE call n0 n o st2 = if nilApp st2.env o.op.i then none else stepL call n0 st2 o.op.i := fun st2 => by unfold stepE; simp [hm, hml]
    have lift : nilApp st.env o.op.i = false → Frm (fun st => stepL call n0 st o.op.i) (foot st.env (n + o.p) o.op.i) st v st1 → Frm (stepE call n0 n o) (foot st.env (n + o.p) o.op.i) st v st1 := by
      rintro hn ⟨d, d1, d2, d3⟩
      refine ⟨d, d1, d2, fun st2 he ha => ?_⟩
      rw [hE, he, hn]
      exact d3 st2 he ha
    rw [hE] at hs
    cases hn : nilApp st.env o.op.i with
    | true => rw [hn] at hs; cases hs
    | false =>
      rw [hn] at hs
      refine lift hn ?_
      simp only [Bool.false_eq_true, if_false] at hs
      cases hi : o.op.i with
      | store a x k => rw [hi] at hs; exact frm_store hs
      | app s x ty esz bytes => rw [hi] at hs hn; exact frm_app hn hs
      | alloc z ty => rw [hi] at hm; cases hm
      | box z ty => rw [hi] at hm; cases hm
      | mks _ _ _ _ => rw [hi] at hm; cases hm
      | lit _ _ _ _ _ => rw [hi] at hm; cases hm
      | call f l => rw [hi] at hc; simp [I.cls] at hc
      | callv f l => rw [hi] at hc; simp [I.cls] at hc
      | clr x z => rw [hi] at hc; simp [I.cls] at hc
      | _ => rw [hi] at hs; exact frm_quiet hs

/-- What has nothing to do with memory. -/
theorem stepE_nul {o : EOp} {st st1 : St} {v : V} (hc : o.cls = 0) (hs : stepE call n0 n o st = some (v, st1)) : st1 = st ∧ ∀ st2, st2.env = st.env → stepE call n0 n o st2 = some (v, st2) := by
  have hm : o.op.i.makes = false := by
    cases hi : o.op.i <;> first | rfl | (unfold EOp.cls at hc; rw [hi] at hc; simp [I.cls] at hc)
  cases hml : o.ml with
  | true =>
    have hE : ∀ st2, stepE call n0 n o st2 = match o.op.i with
      | .call f args => (call f (args.map (·.ev st2.env)) []).bind (pureC st2 (args.map (·.ev st2.env)))
      | .callv x args => match x.ev st2.env with
        | .c (.fn f) => (call f (args.map (·.ev st2.env)) []).bind (pureC st2 (args.map (·.ev st2.env)))
        | _ => none
      | _ => none := fun st2 => by unfold stepE; simp only [hm, hml, Bool.false_eq_true, if_false, if_true]; rfl
    have pure : ∀ (args : List V) (r : Ret), pureC st args r = some (v, st1) → st1 = st ∧ ∀ st2, pureC st2 args r = some (v, st2) := by
      intro args r h
      unfold pureC at h ⊢
      split at h
      · rename_i hq
        injection h with h
        injection h with h1 h2
        exact ⟨h2.symm, fun st2 => by rw [if_pos hq, h1]⟩
      · cases h
    rw [hE] at hs
    split at hs
    · rename_i f l hi
      simp only [Option.bind_eq_some_iff] at hs
      obtain ⟨r, hr, hs⟩ := hs
      obtain ⟨p1, p2⟩ := pure _ _ hs
      refine ⟨p1, fun st2 he => ?_⟩
      rw [hE, hi]
      simp only [he, hr, Option.bind_some, p2 st2]
    · rename_i x l hi
      split at hs
      · rename_i f hf
        simp only [Option.bind_eq_some_iff] at hs
        obtain ⟨r, hr, hs⟩ := hs
        obtain ⟨p1, p2⟩ := pure _ _ hs
        refine ⟨p1, fun st2 he => ?_⟩
        rw [hE, hi]
        simp only [he, hf, hr, Option.bind_some, p2 st2]
      · cases hs
    · cases hs
  | false =>
    have hc' : o.op.i.cls = 0 := by unfold EOp.cls at hc; simpa [hml] using hc
    have hn : ∀ env, nilApp env o.op.i = false := fun env => by
      cases hi : o.op.i <;> first | rfl | (rw [hi] at hc'; cases hc')
    have hE : ∀ st2, stepE call n0 n o st2 = stepL call n0 st2 o.op.i := fun st2 => by unfold stepE; simp [hm, hml, hn]
    rw [hE] at hs
    have hL : ∀ st2, stepL call n0 st2 o.op.i = (stepQ st2.env st2.mem o.op.i).bind fun v => some (v, st2) := fun st2 => by
      cases hi : o.op.i <;> first | rfl | (rw [hi] at hc'; cases hc')
    have hQ : ∀ env (m m2 : List Blk), stepQ env m o.op.i = stepQ env m2 o.op.i := fun env m m2 => by
      cases hi : o.op.i <;> first | rfl | (rw [hi] at hc'; cases hc')
    rw [hL] at hs
    obtain ⟨rfl, h1⟩ := stepQ_state hs
    exact ⟨rfl, fun st2 he => by rw [hE, hL, he, hQ st1.env st2.mem st1.mem, h1]; rfl⟩

end
end Go.Proofs.Ytkoloapgeilbdaa
