/-
  Regions whose order is open and that make or write memory: whatever order, the same in the end.
-/
import Derived.Test.YtkoloapgeilbdaaFs
set_option linter.unusedVariables false
set_option linter.unusedSimpArgs false
namespace Go.Proofs.Ytkoloapgeilbdaa

section
variable {call : FuncId → List V → List Blk → Option Ret} {n0 n : Nat} {m m2 : List Blk} {env env2 : List (Nat × V)} {F G : Foot}

structure Foot.ok (F : Foot) : Prop where
  cr : ∀ x ∈ F.cr, x.1 ∈ F.sr
  cw : ∀ x ∈ F.cw, x.1 ∈ F.sr
theorem rng_blk {v : V} {k : Nat} : ∀ x ∈ v.rng k, x.1 ∈ v.blk := by
  intro x hx
  unfold V.rng at hx
  split at hx
  · simp at hx; subst hx; simp [V.blk]
  · cases hx
theorem srng_blk {v : V} {k : Nat} : ∀ x ∈ v.srng k, x.1 ∈ v.blk := by
  intro x hx
  unfold V.srng at hx
  split at hx
  · simp at hx; subst hx; simp [V.blk]
  · cases hx
theorem foot_ok {i : I} {q : Nat} : (foot env q i).ok := by
  cases i <;> refine ⟨?_, ?_⟩ <;> simp only [foot] <;> intro x hx <;> first | (cases hx; done) | exact rng_blk x hx | exact List.mem_append_right _ (srng_blk x hx)

structure Fits (F G : Foot) : Prop where
  ss : ∀ b ∈ F.sw, ∀ c ∈ G.sr, b ≠ c
  sw : ∀ b ∈ F.sw, ∀ c ∈ G.sw, b ≠ c
  rs : ∀ b ∈ G.sw, ∀ c ∈ F.sr, b ≠ c
  ww : ∀ x ∈ F.cw, ∀ y ∈ G.cw, far x y = true
  wr : ∀ x ∈ F.cw, ∀ y ∈ G.cr, far x y = true
  rw : ∀ x ∈ G.cw, ∀ y ∈ F.cr, far x y = true
theorem fits_spec (h : F.fits G = true) : Fits F G := by
  unfold Foot.fits at h
  simp only [Bool.and_eq_true, List.all_eq_true, decide_eq_true_eq] at h
  obtain ⟨⟨⟨h1, h2⟩, h3⟩, h4⟩ := h
  exact ⟨fun b hb => (h1 b hb).1, fun b hb => (h1 b hb).2, h2, fun x hx => (h3 x hx).1, fun x hx => (h3 x hx).2, h4⟩
theorem far_symm {x y : Nat × Nat × Nat} (h : far x y = true) : far y x = true := by
  unfold far at *
  simp only [decide_eq_true_eq] at *
  rcases h with h | h | h
  · exact .inl (Ne.symm h)
  · exact .inr (.inr h)
  · exact .inr (.inl h)
theorem Fits.symm (h : Fits F G) : Fits G F := ⟨h.rs, fun b hb c hc => Ne.symm (h.sw c hc b hb), h.ss, fun x hx y hy => far_symm (h.ww y hy x hx), h.rw, h.wr⟩
theorem Agree.symm (h : Agree F m m2) : Agree F m2 m := ⟨h.len.symm, fun b hb => (h.sr b hb).symm, fun x hx j h1 h2 => (h.cr x hx j h1 h2).symm, fun b hb => (h.sw b hb).symm⟩

theorem Dl.st_mem {b off : Nat} {cs : List C} {r w : Nat} {blk : Blk} (h : m[b]? = some blk) : (Dl.st b off cs r w).mem m = m.set b { blk with cs := lay blk.cs off cs } := by simp [Dl.mem, h]
theorem lt_of_get {b : Nat} {blk : Blk} (h : m[b]? = some blk) : b < m.length := (List.getElem?_eq_some_iff.1 h).1

/-- What one does is not seen by the other. -/
theorem agree_after (hG : G.ok) {d : Dl} (hd : d.within F m) (hf : Fits F G) : Agree G m (d.mem m) := by
  cases d with
  | no => exact ⟨rfl, fun _ _ => rfl, fun _ _ _ _ _ => rfl, fun _ _ => rfl⟩
  | st b off cs r w =>
    obtain ⟨h1, h2, blk, h3, h4⟩ := hd
    rw [Dl.st_mem h3]
    have hlt := lt_of_get h3
    refine ⟨by simp, fun c hc => ?_, fun x hx j j1 j2 => ?_, fun c hc => ?_⟩
    · unfold shape
      by_cases e : b = c
      · subst e
        rw [h3, List.getElem?_set_self hlt]
        simp [lay_len h4]
      · rw [List.getElem?_set_ne e]
    · unfold cellAt
      by_cases e : b = x.1
      · have hfar := hf.wr _ h1 x hx
        unfold far at hfar
        simp only [decide_eq_true_eq] at hfar
        rw [← e, h3, List.getElem?_set_self hlt]
        simp only [Option.bind_some]
        rw [lay_get h4, if_neg]
        intro hc
        rcases hfar with hq | hq | hq
        · exact hq e
        · omega
        · omega
      · rw [List.getElem?_set_ne e]
    · rw [List.getElem?_set_ne (Ne.symm (hf.rs c hc b h2))]
  | wh p blk r w =>
    have hp : p ∈ F.sw := hd
    refine ⟨by simp [Dl.mem], fun c hc => ?_, fun x hx j j1 j2 => ?_, fun c hc => ?_⟩
    · unfold shape
      simp only [Dl.mem]
      rw [List.getElem?_set_ne (hf.ss p hp c hc)]
    · unfold cellAt
      simp only [Dl.mem]
      rw [List.getElem?_set_ne (hf.ss p hp x.1 (hG.cr x hx))]
    · simp only [Dl.mem]
      rw [List.getElem?_set_ne (hf.sw p hp c hc)]

theorem within_agree {d : Dl} (hd : d.within F m) (ha : Agree F m m2) : d.within F m2 := by
  cases d with
  | no => trivial
  | st b off cs r w =>
    obtain ⟨h1, h2, blk, h3, h4⟩ := hd
    have := ha.sr b h2
    unfold shape at this
    rw [h3] at this
    cases h5 : m2[b]? with
    | none => rw [h5] at this; cases this
    | some blk2 =>
      rw [h5] at this
      simp only [Option.map_some, Option.some.injEq, Prod.mk.injEq] at this
      exact ⟨h1, h2, blk2, h5, by omega⟩
  | wh p blk r w => exact hd

theorem commute_mem {d e : Dl} (hd : d.within F m) (he : e.within G m) (hf : Fits F G) : e.mem (d.mem m) = d.mem (e.mem m) := by
  cases d with
  | no => rfl
  | st b off cs r w =>
    obtain ⟨h1, h2, blk, h3, h4⟩ := hd
    cases e with
    | no => rfl
    | st b' off' cs' r' w' =>
      obtain ⟨g1, g2, blk', g3, g4⟩ := he
      rw [Dl.st_mem h3, Dl.st_mem g3]
      by_cases eq : b = b'
      · subst eq
        rw [h3] at g3
        injection g3 with g3
        subst g3
        have hlt := lt_of_get h3
        rw [Dl.st_mem (List.getElem?_set_self hlt), Dl.st_mem (List.getElem?_set_self hlt), List.set_set, List.set_set]
        have hfar := hf.ww _ h1 _ g1
        unfold far at hfar
        simp only [decide_eq_true_eq] at hfar
        rw [lay_comm h4 g4 (by rcases hfar with hq | hq | hq; exact absurd rfl hq; exact .inl hq; exact .inr hq)]
      · rw [Dl.st_mem (by rw [List.getElem?_set_ne eq]; exact g3), Dl.st_mem (by rw [List.getElem?_set_ne (Ne.symm eq)]; exact h3), List.set_comm _ _ eq]
    | wh p blk' r' w' =>
      have hp : p ∈ G.sw := he
      have hne : p ≠ b := hf.rs p hp b h2
      simp only [Dl.mem, h3]
      rw [List.getElem?_set_ne hne, h3]
      exact List.set_comm _ _ (Ne.symm hne)
  | wh p blk r w =>
    have hp : p ∈ F.sw := hd
    cases e with
    | no => rfl
    | st b' off' cs' r' w' =>
      obtain ⟨g1, g2, blk', g3, g4⟩ := he
      have hne : p ≠ b' := hf.ss p hp b' g2
      simp only [Dl.mem, g3]
      rw [List.getElem?_set_ne hne, g3]
      exact List.set_comm _ _ hne
    | wh p' blk' r' w' =>
      have hp' : p' ∈ G.sw := he
      exact List.set_comm _ _ (hf.sw p hp p' hp')

structure Eqv (a b : St) : Prop where
  mem : a.mem = b.mem
  esc : a.esc = b.esc
  wr : a.wr = b.wr
  env : ∀ t, get a.env t = get b.env t
theorem Eqv.refl (a : St) : Eqv a a := ⟨rfl, rfl, rfl, fun _ => rfl⟩
theorem Eqv.trans {a b c : St} (h : Eqv a b) (k : Eqv b c) : Eqv a c := ⟨h.mem.trans k.mem, h.esc.trans k.esc, h.wr.trans k.wr, fun t => (h.env t).trans (k.env t)⟩
theorem Eqv.symm {a b : St} (h : Eqv a b) : Eqv b a := ⟨h.mem.symm, h.esc.symm, h.wr.symm, fun t => (h.env t).symm⟩
theorem Eqv.wenv {a b : St} (h : Eqv a b) : b = a.wenv b.env := by
  cases a; cases b
  obtain ⟨rfl, rfl, rfl, _⟩ := h
  rfl
theorem looks_get {o : EOp} (h : ∀ t, get env t = get env2 t) : Looks o env env2 :=
  ⟨fun x _ => by cases x with | t i => exact h i | k v => rfl, fun g _ => h g.1⟩

theorem put_env {dst : Option Nat} {v : V} {st : St} : put dst v st = st.wenv (put dst v st).env := by cases dst <;> rfl
theorem get_put {dst : Option Nat} {v : V} {st : St} (t : Nat) : get (put dst v st).env t = if dst = some t then v else get st.env t := by
  cases dst with
  | none => simp [put]
  | some d => simp only [put, get, Option.some.injEq]
/-- A place that an operation does not look at. -/
theorem looks_put {o : EOp} {dst : Option Nat} {v : V} {st : St} (h : ∀ d, dst = some d → d ∉ o.op.looks) : Looks o st.env (put dst v st).env := by
  refine ⟨fun x hx => ?_, fun g hg => ?_⟩
  · cases x with
    | k v => rfl
    | t i =>
      show get st.env i = get (put dst v st).env i
      rw [get_put]
      split
      · rename_i e
        have hm : i ∈ o.op.looks := by unfold IOp.looks; exact List.mem_append_left _ (List.mem_filterMap.2 ⟨Opd.t i, hx, rfl⟩)
        exact absurd hm (h i e)
      · rfl
  · rw [get_put]
    split
    · rename_i e
      have hm : g.1 ∈ o.op.looks := by unfold IOp.looks; exact List.mem_append_right _ (by rw [hg]; simp)
      exact absurd hm (h g.1 e)
    · rfl
theorem Looks.symm {o : EOp} (h : Looks o env env2) : Looks o env2 env := ⟨fun x hx => (h.1 x hx).symm, fun g hg => (h.2 g hg).symm⟩
theorem apart_spec {x y : IOp} (h : apartI x y = true) : (∀ d, x.dst = some d → d ∉ y.looks) ∧ (∀ d, x.dst = some d → y.dst ≠ some d) ∧ (∀ d, y.dst = some d → d ∉ x.looks) := by
  unfold apartI at h
  simp only [Bool.and_eq_true] at h
  refine ⟨fun d hd => ?_, fun d hd => ?_, fun d hd => ?_⟩ <;> rw [hd] at h <;> simp at h
  · exact h.1.1
  · exact h.1.2
  · exact h.2

theorem stepG_nul {o : EOp} {st st1 : St} {v : V} (hc : o.cls = 0) (hs : stepG call n0 n o st = some (v, st1, F)) : st1 = st ∧ ∀ st2, st2.env = st.env → stepG call n0 n o st2 = some (v, st2, F) := by
  unfold stepG at *
  simp only [Option.bind_eq_some_iff] at hs
  obtain ⟨t, ht, hs⟩ := hs
  cases t with
  | true =>
    simp only [if_true, Option.bind_eq_some_iff, Option.some.injEq, Prod.mk.injEq] at hs
    obtain ⟨r, hr, rfl, rfl, rfl⟩ := hs
    obtain ⟨h1, h2⟩ := stepE_nul hc hr
    exact ⟨h1, fun st2 he => by rw [he, ht]; simp [h2 st2 he]⟩
  | false =>
    simp only [Bool.false_eq_true, if_false, Option.some.injEq, Prod.mk.injEq] at hs
    obtain ⟨rfl, rfl, rfl⟩ := hs
    exact ⟨rfl, fun st2 he => by rw [he, ht]; simp⟩
theorem stepG_frm {o : EOp} {st st1 : St} {v : V} (hc : o.op.i.cls = 1 ∨ o.op.i.cls = 2) (hs : stepG call n0 n o st = some (v, st1, F)) : F.ok ∧ (o.op.i.cls = 1 → F.cw = [] ∧ F.sw = []) ∧
    ∃ d : Dl, st1 = d.app st ∧ d.within F st.mem ∧ ∀ st2, st2.env = st.env → Agree F st.mem st2.mem → stepG call n0 n o st2 = some (v, d.app st2, F) := by
  unfold stepG at *
  simp only [Option.bind_eq_some_iff] at hs
  obtain ⟨t, ht, hs⟩ := hs
  cases t with
  | true =>
    simp only [if_true, Option.bind_eq_some_iff, Option.some.injEq, Prod.mk.injEq] at hs
    obtain ⟨r, hr, rfl, rfl, rfl⟩ := hs
    obtain ⟨d, h1, h2, h3⟩ := stepE_frm hc hr
    refine ⟨foot_ok, fun h1 => ?_, d, h1, h2, fun st2 he ha => by rw [he, ht]; simp [h3 st2 he ha]⟩
    cases hi : o.op.i <;> rw [hi] at h1 <;> first | (cases h1; done) | exact ⟨rfl, rfl⟩
  | false =>
    simp only [Bool.false_eq_true, if_false, Option.some.injEq, Prod.mk.injEq] at hs
    obtain ⟨rfl, rfl, rfl⟩ := hs
    exact ⟨⟨by simp, by simp⟩, fun _ => ⟨rfl, rfl⟩, .no, (Dl.no_app _).symm, trivial, fun st2 he ha => by rw [he, ht, Dl.no_app]; simp⟩

theorem cls_cases {o : EOp} (h : o.cls ≠ 0) (h3 : o.cls ≠ 3) : o.op.i.cls = 1 ∨ o.op.i.cls = 2 := by
  unfold EOp.cls at h h3
  split at h
  · exact absurd rfl h
  · rename_i hc
    rw [if_neg hc] at h3
    cases hi : o.op.i <;> rw [hi] at h h3 <;> simp [I.cls] at h h3 ⊢
theorem cls_one {o : EOp} (h : o.cls = 1) : o.op.i.cls = 1 := by
  unfold EOp.cls at h
  split at h
  · cases h
  · exact h

/-- Two operations change places. -/
theorem swap2 {a i : EOp} {st sa s2 : St} {va vi : V} {Fa Fi : Foot} (hp : pairE a i = true) (hf : i.un.contains a.ix = true → Fa.fits Fi = true)
    (h1 : stepG call n0 n a st = some (va, sa, Fa)) (h2 : stepG call n0 n i (put a.op.dst va sa) = some (vi, s2, Fi)) :
    ∃ si s3, stepG call n0 n i st = some (vi, si, Fi) ∧ stepG call n0 n a (put i.op.dst vi si) = some (va, s3, Fa) ∧ Eqv (put i.op.dst vi s2) (put a.op.dst va s3) := by
  unfold pairE at hp
  simp only [Bool.and_eq_true] at hp
  obtain ⟨⟨hap, _⟩, hcls⟩ := hp
  obtain ⟨a1, a2, a3⟩ := apart_spec hap
  have ka := stepG_keeps h1
  have ki := stepG_keeps h2
  have h2' : stepG call n0 n i sa = some (vi, s2.wenv sa.env, Fi) := by
    have hl : Looks i (put a.op.dst va sa).env sa.env := (looks_put a1).symm
    have := stepG_env hl h2
    have e : (put a.op.dst va sa).wenv sa.env = sa := by rw [put_env]; rfl
    rwa [e] at this
  have fin : ∀ (si s3 : St), si.env = st.env → stepG call n0 n i st = some (vi, si, Fi) → stepG call n0 n a si = some (va, s3, Fa) → s2.mem = s3.mem → s2.esc = s3.esc → s2.wr = s3.wr → ∃ si s3, stepG call n0 n i st = some (vi, si, Fi) ∧ stepG call n0 n a (put i.op.dst vi si) = some (va, s3, Fa) ∧ Eqv (put i.op.dst vi s2) (put a.op.dst va s3) := by
    intro si s3 es q1 q2 e1 e2 e3
    refine ⟨si, s3.wenv (put i.op.dst vi si).env, q1, ?_, ?_⟩
    · have := stepG_env (looks_put (o := a) (dst := i.op.dst) (v := vi) (st := si) a3) q2
      rw [← put_env] at this
      exact this
    · refine ⟨?_, ?_, ?_, fun t => ?_⟩
      · rw [put_env, put_env (dst := a.op.dst)]; exact e1
      · rw [put_env, put_env (dst := a.op.dst)]; exact e2
      · rw [put_env, put_env (dst := a.op.dst)]; exact e3
      · rw [get_put, get_put, ki, get_put]
        show _ = if a.op.dst = some t then va else get (put i.op.dst vi si).env t
        rw [get_put, es, ka]
        by_cases ha : a.op.dst = some t
        · have hi : ¬ i.op.dst = some t := a2 t ha
          rw [if_neg hi, if_pos ha]
          simp [ha]
        · rw [if_neg ha]
          simp [ha]
  by_cases c0 : a.cls = 0
  · obtain ⟨rfl, n2⟩ := stepG_nul c0 h1
    refine fin (s2.wenv sa.env) (s2.wenv sa.env) rfl h2' (n2 _ rfl) rfl rfl rfl
  · by_cases c1 : i.cls = 0
    · obtain ⟨n1, n2⟩ := stepG_nul c1 h2'
      have hs2 : s2.mem = sa.mem ∧ s2.esc = sa.esc ∧ s2.wr = sa.wr := by
        cases s2; cases sa
        simp only [St.wenv, St.mk.injEq] at n1
        exact ⟨n1.2.1, n1.2.2.1, n1.2.2.2⟩
      exact fin st sa rfl (n2 st ka.symm) h1 hs2.1 hs2.2.1 hs2.2.2
    · have hcc : (a.cls = 1 ∧ i.cls = 1) ∨ (i.un.contains a.ix = true ∧ a.cls ≠ 3 ∧ i.cls ≠ 3) := by
        simp only [Bool.or_eq_true, Bool.and_eq_true, beq_iff_eq, bne_iff_ne] at hcls
        rcases hcls with ((hq | hq) | hq) | hq
        · exact absurd hq c0
        · exact absurd hq c1
        · exact .inl hq
        · exact .inr ⟨hq.1.1, hq.1.2, hq.2⟩
      have ca : a.op.i.cls = 1 ∨ a.op.i.cls = 2 := cls_cases c0 (by rcases hcc with hq | hq; omega; exact hq.2.1)
      have ci : i.op.i.cls = 1 ∨ i.op.i.cls = 2 := cls_cases c1 (by rcases hcc with hq | hq; omega; exact hq.2.2)
      obtain ⟨oka, ra, d1, e1, w1, f1⟩ := stepG_frm ca h1
      obtain ⟨oki, ri, d2, e2, w2, f2⟩ := stepG_frm ci h2'
      have hfit : Fits Fa Fi := by
        rcases hcc with hq | hq
        · obtain ⟨x1, x2⟩ := ra (cls_one hq.1)
          obtain ⟨y1, y2⟩ := ri (cls_one hq.2)
          exact ⟨by simp [x2], by simp [x2], by simp [y2], by simp [x1], by simp [x1], by simp [y1]⟩
        · exact fits_spec (hf hq.1)
      have g1 : Agree Fi st.mem sa.mem := by rw [e1]; exact agree_after oki w1 hfit
      have q1 := f2 st ka.symm g1.symm
      have w2' : d2.within Fi st.mem := within_agree w2 g1.symm
      have g2 : Agree Fa st.mem (d2.app st).mem := agree_after oka w2' hfit.symm
      have q2 := f1 (d2.app st) rfl g2
      have es : s2.mem = (d2.app sa).mem ∧ s2.esc = (d2.app sa).esc ∧ s2.wr = (d2.app sa).wr := by
        rw [← e2]; exact ⟨rfl, rfl, rfl⟩
      refine fin (d2.app st) (d1.app (d2.app st)) rfl q1 q2 ?_ ?_ ?_
      · rw [es.1, e1]; exact commute_mem w1 w2' hfit
      · rw [es.2.1, e1]; simp only [Dl.app, mx_eq]; omega
      · rw [es.2.2, e1]; simp only [Dl.app, mx_eq]; omega

theorem okF_cons {un : List Nat} {j : Nat} {fs : List (Nat × Foot)} {X : Foot} : okF un ((j, F) :: fs) X = true ↔ (un.contains j = true → F.fits X = true) ∧ okF un fs X = true := by
  unfold okF
  simp only [List.all_cons, Bool.and_eq_true]
  refine and_congr_left fun _ => ?_
  cases un.contains j <;> simp
theorem okF_sub {un : List Nat} {fs fs' : List (Nat × Foot)} {X : Foot} (h : ∀ p ∈ fs', p ∈ fs) (hk : okF un fs X = true) : okF un fs' X = true := by
  unfold okF at *
  rw [List.all_eq_true] at *
  exact fun p hp => hk p (h p hp)

theorem execE_mono : ∀ (l : List EOp) (fs fs' : List (Nat × Foot)) (st st' t : St), execE call n0 n l fs st = some t → (∀ p ∈ fs', p ∈ fs) → Eqv st st' → ∃ t', execE call n0 n l fs' st' = some t' ∧ Eqv t t'
  | [], fs, fs', st, st', t, h, _, he => by
    simp only [execE, Option.some.injEq] at h
    subst h
    exact ⟨st', rfl, he⟩
  | o :: l, fs, fs', st, st', t, h, hs, he => by
    simp only [execE, Option.bind_eq_some_iff] at h
    obtain ⟨⟨v, s1, X⟩, hg, h⟩ := h
    split at h
    · rename_i hk
      have h2 : stepG call n0 n o st' = some (v, s1.wenv st'.env, X) := by
        have := stepG_env (looks_get he.env) hg
        rwa [← he.wenv] at this
      have e2 : Eqv (put o.op.dst v s1) (put o.op.dst v (s1.wenv st'.env)) := by
        refine ⟨?_, ?_, ?_, fun u => ?_⟩
        · cases o.op.dst <;> rfl
        · cases o.op.dst <;> rfl
        · cases o.op.dst <;> rfl
        · rw [get_put, get_put, stepG_keeps hg]
          show _ = if o.op.dst = some u then v else get st'.env u
          rw [he.env]
      obtain ⟨t', q1, q2⟩ := execE_mono l ((o.ix, X) :: fs) ((o.ix, X) :: fs') _ _ t h (fun p hp => by
        simp only [List.mem_cons] at hp ⊢
        exact hp.imp id (hs p)) e2
      refine ⟨t', ?_, q2⟩
      simp only [execE, h2, Option.bind_some]
      rw [if_pos (okF_sub hs hk)]
      exact q1
    · cases h

/-- An operation that may come first may be taken first. -/
theorem bubble {i : EOp} {B : List EOp} : ∀ (A : List EOp) (fs : List (Nat × Foot)) (st t : St), execE call n0 n (A ++ i :: B) fs st = some t → (∀ a ∈ A, pairE a i = true) → ∃ t', execE call n0 n (i :: (A ++ B)) fs st = some t' ∧ Eqv t t'
  | [], fs, st, t, h, _ => ⟨t, h, Eqv.refl t⟩
  | a :: A, fs, st, t, h, hp => by
    rw [List.cons_append, execE, Option.bind_eq_some_iff] at h
    obtain ⟨⟨va, sa, Fa⟩, ha, h⟩ := h
    split at h
    · rename_i hka
      obtain ⟨t1, h1, q1⟩ := bubble A _ _ t h fun x hx => hp x (by simp [hx])
      rw [execE, Option.bind_eq_some_iff] at h1
      obtain ⟨⟨vi, s2, Fi⟩, hi, h1⟩ := h1
      split at h1
      · rename_i hki
        have hpa := hp a (by simp)
        obtain ⟨hk1, hk2⟩ := okF_cons.1 hki
        obtain ⟨si, s3, k1, k2, k3⟩ := swap2 hpa hk1 ha hi
        obtain ⟨t', r1, r2⟩ := execE_mono (A ++ B) _ ((a.ix, Fa) :: (i.ix, Fi) :: fs) _ _ t1 h1 (fun p hp => by
          simp only [List.mem_cons] at hp ⊢
          rcases hp with hp | hp | hp
          · exact .inr (.inl hp)
          · exact .inl hp
          · exact .inr (.inr hp)) k3
        refine ⟨t', ?_, q1.trans r2⟩
        have hun : a.un.contains i.ix = false := by
          unfold pairE at hpa
          simp only [Bool.and_eq_true, Bool.not_eq_true'] at hpa
          exact hpa.1.2
        rw [execE, k1, Option.bind_some, if_pos hk2, List.cons_append, execE, k2, Option.bind_some, if_pos (okF_cons.2 ⟨fun hc => absurd (hun.symm.trans hc) (by simp), hka⟩)]
        exact r1
      · cases h1
    · cases h
end
end Go.Proofs.Ytkoloapgeilbdaa
