/-
  Regions whose order is open and that make or write memory: which operations may change places.
-/
import Derived.Test.YtkoloapgeilbdaaF
set_option linter.unusedVariables false
set_option linter.unusedSimpArgs false
namespace Go.Proofs.Ytkoloapgeilbdaa

section
variable {call : FuncId → List V → List Blk → Option Ret} {n0 n : Nat} {m m2 : List Blk} {env env2 : List (Nat × V)}

theorem layAll_congr : ∀ (ps : List (Nat × Nat × Opd)) (cs : List C), (∀ p ∈ ps, p.2.2.ev env = p.2.2.ev env2) → layAll env cs ps = layAll env2 cs ps
  | [], _, _ => rfl
  | p :: ps, cs, h => by
    simp only [layAll, h p (by simp)]
    congr 1
    funext new
    split
    · exact layAll_congr ps _ fun q hq => h q (by simp [hq])
    · rfl
theorem map_congr {l : List Opd} (h : ∀ x ∈ l, x.ev env = x.ev env2) : l.map (·.ev env) = l.map (·.ev env2) := List.map_congr_left h
theorem lo_congr {lo : Option Opd} (h : ∀ x ∈ lo.toList, x.ev env = x.ev env2) : lo' env lo = lo' env2 lo := by
  cases lo with
  | none => rfl
  | some x => simp only [lo', h x (by simp)]
theorem hi_congr {k : Nat} {lo : Option Opd} (h : ∀ x ∈ lo.toList, x.ev env = x.ev env2) : hi' env k lo = hi' env2 k lo := by
  cases lo with
  | none => rfl
  | some x => simp only [hi', h x (by simp)]
theorem stepQ_congr {i : I} (h : ∀ x ∈ i.opds, x.ev env = x.ev env2) : stepQ env m i = stepQ env2 m i := by
  cases i with
  | sla a k e lo hi =>
    simp only [I.opds, List.mem_cons, List.mem_append, forall_eq_or_imp] at h
    simp only [stepQ, h.1, lo_congr (fun x hx => h.2 x (.inl hx)), hi_congr (k := k) (fun x hx => h.2 x (.inr hx))]
  | sls a e lo hi =>
    simp only [I.opds, List.mem_cons, List.mem_append, forall_eq_or_imp] at h
    have h2 : ∀ k, hi' env k hi = hi' env2 k hi := fun k => hi_congr (fun x hx => h.2 x (.inr hx))
    simp only [stepQ, h.1, lo_congr (fun x hx => h.2 x (.inl hx)), h2]
  | bld z ps =>
    simp only [stepQ]
    rw [layAll_congr ps z fun p hp => h _ (List.mem_map.2 ⟨p, hp, rfl⟩)]
  | mkc f l =>
    have h' : l.map (·.ev env) = l.map (·.ev env2) := List.map_congr_left h
    simp only [stepQ, h']
  | _ => simp only [I.opds, List.mem_cons, List.not_mem_nil, or_false, forall_eq_or_imp, forall_eq, implies_true] at h <;> simp only [stepQ, h]
theorem src_congr {esz : Nat} {x : Opd} (h : x.ev env = x.ev env2) : src env m esz x = src env2 m esz x := by simp only [src, h]

/-- The environment put in another's place. -/
def St.wenv (st : St) (env : List (Nat × V)) : St := { st with env := env }
def mapS (env : List (Nat × V)) (x : Option (V × St)) : Option (V × St) := x.map fun q => (q.1, q.2.wenv env)
theorem stepL_env {i : I} {st : St} (h : ∀ x ∈ i.opds, x.ev st.env = x.ev env2) : stepL call n0 (st.wenv env2) i = mapS env2 (stepL call n0 st i) := by
  cases i with
  | alloc z ty => rfl
  | box x ty =>
    simp only [I.opds, List.mem_cons, List.not_mem_nil, or_false, forall_eq] at h
    simp only [stepL, St.wenv, ← h, mapS]
    cases (x.ev st.env).cells? <;> rfl
  | store a x k =>
    simp only [I.opds, List.mem_cons, List.not_mem_nil, or_false, forall_eq_or_imp, forall_eq] at h
    simp only [stepL, St.wenv, ← h.1, ← h.2, mapS]
    split
    · cases (x.ev st.env).cells? with
      | none => rfl
      | some cs =>
        simp only [Option.bind_some, guard', wrt]
        split
        · rename_i b off tot _ _
          cases live st.mem b tot with
          | none => rfl
          | some blk =>
            simp only [Option.bind_some]
            split <;> rfl
        · rfl
    · rfl
  | mks k z ty bytes =>
    simp only [I.opds, List.mem_cons, List.not_mem_nil, or_false, forall_eq] at h
    simp only [stepL, St.wenv, ← h, mapS, guard']
    cases (k.ev st.env).int? with
    | none => rfl
    | some l =>
      simp only [Option.bind_some]
      split <;> rfl
  | lit k esz z ps ty =>
    have h' : layAll env2 (rep k z) (ps.map fun (i, x) => (i * esz, esz, x)) = layAll st.env (rep k z) (ps.map fun (i, x) => (i * esz, esz, x)) := by
      refine layAll_congr _ _ fun p hp => ?_
      obtain ⟨q, hq, rfl⟩ := List.mem_map.1 hp
      exact (h q.2 (List.mem_map.2 ⟨q, hq, rfl⟩)).symm
    simp only [stepL, St.wenv, h', mapS, guard']
    split
    · cases layAll st.env (rep k z) (ps.map fun (i, x) => (i * esz, esz, x)) with
      | none => rfl
      | some cs =>
        simp only [Option.bind_some]
        split <;> rfl
    · rfl
  | app s x ty esz bytes =>
    simp only [I.opds, List.mem_cons, List.not_mem_nil, or_false, forall_eq_or_imp, forall_eq] at h
    have h2 : src env2 st.mem esz x = src st.env st.mem esz x := (src_congr h.2).symm
    simp only [stepL, St.wenv, h2, ← h.1, mapS, guard']
    cases src st.env st.mem esz x with
    | none => rfl
    | some p =>
      simp only [Option.bind_some]
      split
      · split
        · rfl
        · split <;> rfl
      · rename_i b off len tot _
        cases live st.mem b tot with
        | none => rfl
        | some blk =>
          simp only [Option.bind_some]
          split <;> rfl
      · rfl
  | clr x z =>
    simp only [I.opds, List.mem_cons, List.not_mem_nil, or_false, forall_eq] at h
    simp only [stepL, St.wenv, ← h, mapS]
    split
    · rfl
    · cases live st.mem _ _ with
      | none => rfl
      | some blk =>
        simp only [Option.bind_some]
        split
        · rfl
        · simp only [wrt, guard']
          cases live st.mem _ _ with
          | none => rfl
          | some blk =>
            simp only [Option.bind_some]
            split <;> rfl
    · rfl
  | call f l =>
    have h' : l.map (·.ev env2) = l.map (·.ev st.env) := (map_congr h).symm
    simp only [stepL, St.wenv, h', mapS]
    cases call f (l.map (·.ev st.env)) st.mem <;> rfl
  | callv x l =>
    simp only [I.opds, List.mem_cons, forall_eq_or_imp] at h
    have h' : l.map (·.ev env2) = l.map (·.ev st.env) := (map_congr h.2).symm
    simp only [stepL, St.wenv, h', ← h.1, mapS]
    split
    · cases call _ (l.map (·.ev st.env)) st.mem <;> rfl
    · cases call _ (l.map (·.ev st.env) ++ _) st.mem <;> rfl
    · cases call _ (l.map (·.ev st.env) ++ _) st.mem <;> rfl
    · rfl
  | _ => simp only [stepL, St.wenv, mapS, ← stepQ_congr h] <;> cases stepQ st.env st.mem _ <;> rfl

/-- Two environments that an operation can't tell apart. -/
def Looks (o : EOp) (env env2 : List (Nat × V)) : Prop := (∀ x ∈ o.op.i.opds, x.ev env = x.ev env2) ∧ ∀ g, o.op.gd = some g → get env g.1 = get env2 g.1

theorem nilApp_congr {i : I} (h : ∀ x ∈ i.opds, x.ev env = x.ev env2) : nilApp env i = nilApp env2 i := by
  cases i with
  | app s x ty e b =>
    simp only [I.opds, List.mem_cons, List.not_mem_nil, or_false, forall_eq_or_imp, forall_eq] at h
    simp only [nilApp, h.1, h.2]
  | _ => rfl
theorem foot_congr {i : I} {q : Nat} (h : ∀ x ∈ i.opds, x.ev env = x.ev env2) : foot env q i = foot env2 q i := by
  cases i with
  | sla a k e lo hi => simp only [I.opds, List.mem_cons, forall_eq_or_imp] at h; simp only [foot, h.1]
  | sls a e lo hi => simp only [I.opds, List.mem_cons, forall_eq_or_imp] at h; simp only [foot, h.1]
  | _ => first | rfl | (simp only [I.opds, List.mem_cons, List.not_mem_nil, or_false, forall_eq_or_imp, forall_eq] at h; simp only [foot, h])
theorem guard_map {α β : Type} {c : Prop} [Decidable c] {x : Option α} (f : α → β) : (guard' c x).map f = guard' c (x.map f) := by
  unfold guard'; split <;> rfl
theorem place_env {q : Nat} {st : St} {r : V × St} : place q (st.wenv env2) (r.1, r.2.wenv env2) = mapS env2 (place q st r) := by
  unfold place mapS
  show (match r.2.mem with | [blk] => _ | _ => _) = _
  cases r.2.mem with
  | nil => rfl
  | cons blk l =>
    cases l with
    | cons _ _ => rfl
    | nil =>
      show (match r.1 with | .c (.ptr _ o t) => _ | .c (.sl _ o l t) => _ | _ => _) = _
      cases r.1 with
      | c x => cases x <;> first | rfl | (show _ = Option.map _ (guard' _ _); rw [guard_map]; rfl)
      | agg l => rfl
      | tup l => rfl
theorem pureC_env {st : St} {args : List V} {r : Ret} : pureC (st.wenv env2) args r = mapS env2 (pureC st args r) := by
  simp only [pureC, mapS]
  split <;> rfl
theorem stepE_env {o : EOp} {st : St} (h : ∀ x ∈ o.op.i.opds, x.ev st.env = x.ev env2) : stepE call n0 n o (st.wenv env2) = mapS env2 (stepE call n0 n o st) := by
  unfold stepE
  split
  · have := stepL_env (call := call) (n0 := n0) (i := o.op.i) (st := { st with mem := [] }) (env2 := env2) h
    have e : ({ st.wenv env2 with mem := [] } : St) = ({ st with mem := [] } : St).wenv env2 := rfl
    rw [e, this]
    cases stepL call n0 { st with mem := [] } o.op.i with
    | none => rfl
    | some r =>
      simp only [mapS, Option.map_some, Option.bind_some]
      exact place_env
  · split
    · split
      · rename_i f l heq
        rw [heq] at h
        have h' : l.map (·.ev (st.wenv env2).env) = l.map (·.ev st.env) := (map_congr h).symm
        simp only [h']
        cases call f (l.map (·.ev st.env)) [] with
        | none => rfl
        | some r => simp only [Option.bind_some]; exact pureC_env
      · rename_i x l heq
        rw [heq] at h
        simp only [I.opds, List.mem_cons, forall_eq_or_imp] at h
        have h' : l.map (·.ev (st.wenv env2).env) = l.map (·.ev st.env) := (map_congr h.2).symm
        have h1 : x.ev (st.wenv env2).env = x.ev st.env := h.1.symm
        simp only [h', h1]
        split
        · rename_i f _
          cases call f (l.map (·.ev st.env)) [] with
          | none => rfl
          | some r => simp only [Option.bind_some]; exact pureC_env
        · rfl
      · rfl
    · have h1 : nilApp (st.wenv env2).env o.op.i = nilApp st.env o.op.i := (nilApp_congr h).symm
      rw [h1]
      split
      · rfl
      · exact stepL_env h
theorem wantB_congr {gd : Option (Nat × Bool)} (h : ∀ g, gd = some g → get env g.1 = get env2 g.1) : wantB env gd = wantB env2 gd := by
  cases gd with
  | none => rfl
  | some g => obtain ⟨t, b⟩ := g; simp only [wantB, h (t, b) rfl]
theorem stepG_env {o : EOp} {st : St} (h : Looks o st.env env2) {v : V} {st1 : St} {F : Foot} (hs : stepG call n0 n o st = some (v, st1, F)) : stepG call n0 n o (st.wenv env2) = some (v, st1.wenv env2, F) := by
  unfold stepG at *
  have h1 : wantB (st.wenv env2).env o.op.gd = wantB st.env o.op.gd := (wantB_congr h.2).symm
  rw [h1]
  simp only [Option.bind_eq_some_iff] at hs ⊢
  obtain ⟨t, ht, hs⟩ := hs
  refine ⟨t, ht, ?_⟩
  cases t with
  | true =>
    simp only [if_true, Option.bind_eq_some_iff, Option.some.injEq, Prod.mk.injEq] at hs ⊢
    obtain ⟨r, hr, rfl, rfl, rfl⟩ := hs
    refine ⟨(r.1, r.2.wenv env2), by rw [stepE_env h.1, hr]; rfl, rfl, rfl, ?_⟩
    exact (foot_congr h.1).symm
  | false =>
    simp only [Bool.false_eq_true, if_false, Option.some.injEq, Prod.mk.injEq] at hs ⊢
    obtain ⟨rfl, rfl, rfl⟩ := hs
    exact ⟨rfl, rfl, rfl⟩

theorem stepL_keeps {i : I} {st st1 : St} {v : V} (hs : stepL call n0 st i = some (v, st1)) : st1.env = st.env := by
  have := stepL_env (call := call) (n0 := n0) (i := i) (st := st) (env2 := st.env) (fun _ _ => rfl)
  rw [show st.wenv st.env = st from rfl, hs] at this
  simp only [mapS, Option.map_some, Option.some.injEq, Prod.mk.injEq, true_and] at this
  rw [this]; rfl
theorem stepE_keeps {o : EOp} {st st1 : St} {v : V} (hs : stepE call n0 n o st = some (v, st1)) : st1.env = st.env := by
  have := stepE_env (call := call) (n0 := n0) (n := n) (o := o) (st := st) (env2 := st.env) (fun _ _ => rfl)
  rw [show st.wenv st.env = st from rfl, hs] at this
  simp only [mapS, Option.map_some, Option.some.injEq, Prod.mk.injEq, true_and] at this
  rw [this]; rfl
theorem stepG_keeps {o : EOp} {st st1 : St} {v : V} {F : Foot} (hs : stepG call n0 n o st = some (v, st1, F)) : st1.env = st.env := by
  have := stepG_env (call := call) (n0 := n0) (n := n) (o := o) (st := st) (env2 := st.env) ⟨fun _ _ => rfl, fun _ _ => rfl⟩ hs
  rw [show st.wenv st.env = st from rfl, hs] at this
  simp only [Option.some.injEq, Prod.mk.injEq, true_and, and_true] at this
  rw [this]; rfl
end
end Go.Proofs.Ytkoloapgeilbdaa
