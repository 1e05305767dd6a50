/-
  The abstract machine is sound: regions and code.
-/
import Derived.Test.YtkoloapgeilbdaaFu
set_option linter.unusedVariables false
set_option linter.unusedSimpArgs false
namespace Go.Proofs.Ytkoloapgeilbdaa
open Go.RowKit

section
variable {P : Program} {base nt : Nat} {w0 w w' : World} {ι0 ι ι' : Nat → Nat × Nat} {m0 m m' : List Blk} {a : Act} {o : Oper} {st : St} {e : Nat} {wr : Nat}
  {call : FuncId → List V → List Blk → Option Ret} {env : List (Nat × V)} {ops : Array Oper}

theorem trOps_cons {l : List Oper} {io : List IOp} (h : trOps P ops nt (o :: l) = some io) :
    ∃ (i : IOp) (io' : List IOp), io = ⟨o.dst, i.gd, i.i⟩ :: io' ∧ trI P o.op = some i.i ∧ trOps P ops nt l = some io' ∧ (∀ d, o.dst = some d → d < nt) ∧
      ((o.guard = none ∧ i.gd = none) ∨ ∃ j b t, o.guard = some (j, b) ∧ i.gd = some (t, b) ∧ (ops[j]?).bind (·.dst) = some t) := by
  simp only [trOps, Option.bind_eq_some_iff] at h
  obtain ⟨i, hi, io', hio, h⟩ := h
  split at h
  · rename_i d hd
    split at h
    · rename_i hlt
      split at h
      · rename_i hg
        injection h with h
        exact ⟨⟨some d, none, i⟩, io', by rw [← h, hd], hi, hio, (fun d' hd' => by rw [hd] at hd'; injection hd' with hd'; exact hd' ▸ hlt), .inl ⟨hg, rfl⟩⟩
      · rename_i j b hg
        simp only [Option.bind_eq_some_iff] at h
        obtain ⟨t, ht, h⟩ := h
        injection h with h
        exact ⟨⟨some d, some (t, b), i⟩, io', by rw [← h, hd], hi, hio, (fun d' hd' => by rw [hd] at hd'; injection hd' with hd'; exact hd' ▸ hlt), .inr ⟨j, b, t, hg, rfl, by simpa [Option.bind_eq_some_iff] using ht⟩⟩
    · cases h
  · rename_i hd
    split at h
    · rename_i hg
      injection h with h
      exact ⟨⟨none, none, i⟩, io', by rw [← h, hd], hi, hio, (fun d' hd' => by rw [hd] at hd'; cases hd'), .inl ⟨hg, rfl⟩⟩
    · rename_i j b hg
      simp only [Option.bind_eq_some_iff] at h
      obtain ⟨t, ht, h⟩ := h
      injection h with h
      exact ⟨⟨none, some (t, b), i⟩, io', by rw [← h, hd], hi, hio, (fun d' hd' => by rw [hd] at hd'; cases hd'), .inr ⟨j, b, t, hg, rfl, by simpa [Option.bind_eq_some_iff] using ht⟩⟩

theorem want_sound (he : EnvR w ι m env a) {gd : Option (Nat × Bool)} (hg : (o.guard = none ∧ gd = none) ∨ ∃ j b t, o.guard = some (j, b) ∧ gd = some (t, b) ∧ (ops[j]?).bind (·.dst) = some t) {α : Type} {yes no : List (Nat × V) → Option α} {r : α} (hw : want env gd yes no = some r) :
    (Region.wanted o (yielded ops a.tmps) = true ∧ ∃ env', EnvR w ι m env' a ∧ yes env' = some r) ∨ (Region.wanted o (yielded ops a.tmps) = false ∧ ∃ env', EnvR w ι m env' a ∧ no env' = some r) := by
  rcases hg with ⟨h1, rfl⟩ | ⟨j, b, t, h1, rfl, h2⟩
  · simp only [want] at hw
    exact .inl ⟨by simp [Region.wanted, h1], env, he, hw⟩
  · simp only [want] at hw
    have ht := he t
    split at hw
    · rename_i x hx
      rw [hx] at ht
      have hb := ht.bool
      have htm : a.tmps[t]? = some (.bool x) := by
        cases hq : a.tmps[t]? with
        | none => simp [hq, Go.undef] at hb
        | some q => simp [hq] at hb; rw [hb]
      have hen : ∀ y, y = x → EnvR w ι m ((t, .c (.bool y)) :: env) a := by
        intro y hy t'
        simp only [get]
        split
        · rename_i e; subst e; subst hy; exact ht
        · exact he t'
      split at hw
      · rename_i e
        subst e
        exact .inl ⟨by simp [Region.wanted, h1, yielded, h2, htm], _, hen x rfl, hw⟩
      · rename_i e
        exact .inr ⟨by simp [Region.wanted, h1, yielded, h2, htm, e], _, hen (!b) (by cases x <;> cases b <;> simp_all), hw⟩
    · rename_i hx
      rw [hx] at ht
      have : a.tmps.getD t undef = Go.undef := by
        have ht' := ht.of_c
        generalize a.tmps.getD t undef = q at ht'
        cases ht'
        rfl
      refine .inr ⟨?_, env, he, hw⟩
      cases hq : a.tmps[t]? with
      | none => simp [Region.wanted, h1, yielded, h2, hq]
      | some q =>
        have hq' : q = Go.undef := by simpa [hq] using this
        subst hq'
        simp [Region.wanted, h1, yielded, h2, hq, Go.undef]
    · cases hw

theorem SR.withEnv (h : SR P base nt w0 ι0 m0 w ι st a) {env' : List (Nat × V)} (he : EnvR w ι st.mem env' a) : SR P base nt w0 ι0 m0 w ι { st with env := env' } a := ⟨h.mem, he, h.defers, h.size⟩

theorem execOps_sound (hC : CallOk P call) {Q : Exit → Act → World → Prop} : ∀ (l : List Oper) (io : List IOp), trOps P ops nt l = some io → ∀ (w : World) (ι : Nat → Nat × Nat) (a : Act) (st st' : St), SR P base nt w0 ι0 m0 w ι st a → execOps call m0.length io st = some st' →
    (∀ w' ι' a', SR P base nt w0 ι0 m0 w' ι' st' a' → Q .normal a' w') → wpList P ops Q l a w
  | [], io, ht, w, ι, a, st, st', h, hs, hQ => by
    simp only [trOps, Option.some.injEq] at ht
    subst ht
    simp only [execOps, Option.some.injEq] at hs
    subst hs
    exact hQ w ι a h
  | o :: l, io, ht, w, ι, a, st, st', h, hs, hQ => by
    obtain ⟨i, io', rfl, hi, hio, hd, hg⟩ := trOps_cons ht
    simp only [execOps] at hs
    unfold wpList
    rcases want_sound (w := w) (ι := ι) (m := st.mem) h.env hg hs with ⟨hwant, env', he', hs⟩ | ⟨hwant, env', he', hs⟩
    · rw [hwant]
      have h := h.withEnv he'
      simp only [if_true, Option.bind_eq_some_iff] at hs ⊢
      obtain ⟨p, hp, hs⟩ := hs
      left
      refine (step_sound hC h hi (v := p.1) (st' := p.2) hp fun w' ι' r hv hm hev => ?_).2
      have henv : p.2.env = env' := (step_sound (K := fun _ _ => True) (Q := fun _ _ _ => True) hC h hi (v := p.1) (st' := p.2) hp fun _ _ _ _ _ _ => trivial).1
      exact execOps_sound hC l io' hio w' ι' _ _ st' (h.put hv hm hev henv hd) hs hQ
    · rw [hwant]
      have h := h.withEnv he'
      simp only [Bool.false_eq_true, if_false] at hs ⊢
      exact execOps_sound hC l io' hio w ι _ _ st' (h.put (st' := { st with env := env' }) (.c .undef) h.mem (Evo.refl _ _ _) rfl hd) hs hQ

theorem trOps_get : ∀ (l : List Oper) (io : List IOp), trOps P ops nt l = some io → io.length = l.length ∧ ∀ (k : Nat) (o : Oper), l[k]? = some o → ∃ i, io[k]? = some i ∧ i.dst = o.dst ∧ trI P o.op = some i.i ∧ (∀ d, o.dst = some d → d < nt) ∧
      ((o.guard = none ∧ i.gd = none) ∨ ∃ j b t, o.guard = some (j, b) ∧ i.gd = some (t, b) ∧ (ops[j]?).bind (·.dst) = some t)
  | [], io, h => by
    simp only [trOps, Option.some.injEq] at h
    subst h
    exact ⟨rfl, by simp⟩
  | o :: l, io, h => by
    obtain ⟨i, io', rfl, hi, hio, hd, hg⟩ := trOps_cons h
    obtain ⟨h1, h2⟩ := trOps_get l io' hio
    refine ⟨by simp [h1], fun k o' hk => ?_⟩
    cases k with
    | zero =>
      simp only [List.getElem?_cons_zero, Option.some.injEq] at hk
      subst hk
      exact ⟨_, rfl, rfl, hi, hd, hg⟩
    | succ k => simpa using h2 k o' (by simpa using hk)
theorem trR_of {io : List IOp} (h : trOps P ops nt ops.toList = some io) {R : List (List Nat)} (hok : regOk ops R (trE R io 0 0 io) = true) : TrR P nt ops R (trE R io 0 0 io) := by
  obtain ⟨h1, h2⟩ := trOps_get _ _ h
  have hm := trE_op (R := R) (all := io) io 0 0
  have hlen : (trE R io 0 0 io).length = io.length := by rw [← List.length_map (f := fun e : EOp => e.op), hm]
  have hlen2 : (trE R io 0 0 io).length = ops.size := by rw [hlen, h1]; simp
  have hget : ∀ (k : Nat) (i : IOp), io[k]? = some i → ∃ e, (trE R io 0 0 io)[k]? = some e ∧ e.op = i := fun k i hi => by
    rw [← hm, List.getElem?_map, Option.map_eq_some_iff] at hi
    exact hi
  refine ⟨by unfold regOk at hok; rw [Bool.and_eq_true] at hok; exact hok.1, hlen2, fun k o ho => ?_, fun k e he => ?_, fun k o ho => ?_, fun j k x y hjk hx hy => ?_⟩
  · obtain ⟨i, q1, q2, q3, q4, q5⟩ := h2 k o (by simpa using ho)
    obtain ⟨e, r1, r2⟩ := hget k i q1
    exact ⟨e, r1, by rw [r2]; exact q2, by rw [r2]; exact q3, q4, by unfold GdR; rw [r2]; exact q5⟩
  · obtain ⟨_, i, r1, r2, _⟩ := regOk_spec hok (List.getElem?_eq_some_iff.1 he).1
    rw [he] at r1
    injection r1 with r1
    rw [r1]; exact r2
  · have hlt : k < ops.size := (Array.getElem?_eq_some_iff.1 ho).1
    obtain ⟨⟨o', r1, r2⟩, _⟩ := regOk_spec hok (by rw [hlen2]; exact hlt)
    rw [ho] at r1
    injection r1 with r1
    rw [r1]; exact r2
  · obtain ⟨_, i, r1, _, r3⟩ := regOk_spec hok (List.getElem?_eq_some_iff.1 hy).1
    rw [hy] at r1
    injection r1 with r1
    rcases r3 j hjk with q | ⟨x', q1, q2⟩
    · exact .inl q
    · right
      rw [hx] at q1
      injection q1 with q1
      rw [q1, r1]; exact q2

/-! ### A region whose order is open -/
theorem quiet_does (h : SR P base nt w0 ι0 m0 w ι st a) {v : V} (hd : Does P w ι st.mem a o v) {K : Act → Prop} (hK : ∀ r, VR w ι st.mem v r → K (a.put o.dst r)) : o.quiet P a (fun w' => Below w.heap.size w w') K := by
  obtain ⟨r, h1, h2⟩ := hd
  refine ⟨r, fun w' hw => ?_, hK r h1⟩
  unfold Oper.quietAt
  rw [h2 w' hw]
  exact ⟨rfl, rfl⟩

theorem quiet_call (hC : CallOk P call) (h : SR P base nt w0 ι0 m0 w ι st a) {c : Call} {f : FuncId} (ho : o.op = .call c) {x : Operand} (hx : c.callee = .value x) (hv : a.eval x = .func (.func f) #[] #[]) {ret : Ret}
    (hr : call f ((c.args.toList.map trO).map (·.ev st.env)) st.mem = some ret) (hwr : ret.wr = 0) (hlen : ret.mem.length = st.mem.length) (hh : ret.v.hard = true) {K : Act → Prop} (hK : ∀ r, VR w ι st.mem ret.v r → K (a.put o.dst r)) :
    o.quiet P a (fun w' => Below w.heap.size w w') K := by
  obtain ⟨hf, hcall⟩ := hC f _ st.mem ret hr
  refine ⟨ret.v.real, fun w' hw => ?_, hK _ (V.hard_VR hh)⟩
  unfold Oper.quietAt
  rw [run_call ho hx hv hf w']
  refine ⟨rfl, ?_⟩
  obtain ⟨h1, h2⟩ := args_VR (h.env.below hw) c.args.toList
  have hc := hcall base w' ι (c.args.toList.map a.eval) (h.mem.sim.below hw) h1 h2
  have ha : (c.args.toList.map a.eval).toArray = c.args.map a.eval := by apply Array.ext'; simp
  rw [ha] at hc
  refine hc.mono fun e w'' ⟨r, ι', he, hv', hm⟩ => ?_
  rw [hwr] at hm
  exact ⟨by rw [he, V.hard_eq hh hv'], hw.trans (hm.below.1.mono hw.size)⟩

theorem quiet_callc (hC : CallOk P call) (h : SR P base nt w0 ι0 m0 w ι st a) {c : Call} {f : FuncId} (ho : o.op = .call c) {x : Operand} (hx : c.callee = .value x) {ns : List (IntKind × Int)} (hv : a.eval x = .func (.func f) #[] (ns.map fun p => Value.int p.1 p.2).toArray) {ret : Ret}
    (hr : call f ((c.args.toList.map trO).map (·.ev st.env) ++ capV ns) st.mem = some ret) (hwr : ret.wr = 0) (hlen : ret.mem.length = st.mem.length) (hh : ret.v.hard = true) {K : Act → Prop} (hK : ∀ r, VR w ι st.mem ret.v r → K (a.put o.dst r)) :
    o.quiet P a (fun w' => Below w.heap.size w w') K := by
  obtain ⟨hf, hcall⟩ := hC f _ st.mem ret hr
  refine ⟨ret.v.real, fun w' hw => ?_, hK _ (V.hard_VR hh)⟩
  unfold Oper.quietAt
  rw [run_callc ho hx hv hf w']
  refine ⟨rfl, ?_⟩
  obtain ⟨h1, h2⟩ := args_VRc (h.env.below hw) c.args.toList ns
  have hc := hcall base w' ι (c.args.toList.map a.eval ++ ns.map fun p => Value.int p.1 p.2) (h.mem.sim.below hw) h1 h2
  have ha : (c.args.toList.map a.eval ++ ns.map fun p => Value.int p.1 p.2).toArray = c.args.map a.eval ++ (ns.map fun p => Value.int p.1 p.2).toArray := by apply Array.ext'; simp
  rw [ha] at hc
  refine hc.mono fun e w'' ⟨r, ι', he, hv', hm⟩ => ?_
  rw [hwr] at hm
  exact ⟨by rw [he, V.hard_eq hh hv'], hw.trans (hm.below.1.mono hw.size)⟩

theorem execD_sound (hC : CallOk P call) {Q : Exit → Act → World → Prop} : ∀ (l : List Oper) (io : List IOp), trOps P ops nt l = some io → ∀ (a : Act) (st : St) (env' : List (Nat × V)), SR P base nt w0 ι0 m0 w ι st a → execD call st.mem io st.env = some env' →
    (∀ a', SR P base nt w0 ι0 m0 w ι { st with env := env' } a' → Q .normal a' w) → wpQuiet P ops (fun w' => Below w.heap.size w w') (fun a' => SR P base nt w0 ι0 m0 w ι { st with env := env' } a') l a
  | [], io, ht, a, st, env', h, hs, hQ => by
    simp only [trOps, Option.some.injEq] at ht
    subst ht
    simp only [execD, Option.some.injEq] at hs
    subst hs
    exact h
  | o :: l, io, ht, a, st, env', h, hs, hQ => by
    obtain ⟨i, io', rfl, hi, hio, hd, hg⟩ := trOps_cons ht
    simp only [execD] at hs
    unfold wpQuiet
    cases hdst : o.dst with
    | none => rw [hdst] at hs; cases hs
    | some d =>
      rw [hdst] at hs
      simp only at hs
      have next : ∀ (env1 : List (Nat × V)) (v : V) (r : Value), SR P base nt w0 ι0 m0 w ι { st with env := env1 } a → VR w ι st.mem v r → execD call st.mem io' ((d, v) :: env1) = some env' → wpQuiet P ops (fun w' => Below w.heap.size w w') (fun a' => SR P base nt w0 ι0 m0 w ι { st with env := env' } a') l (a.put o.dst r) := by
        intro env1 v r h hv hs
        have h' : SR P base nt w0 ι0 m0 w ι { st with env := (d, v) :: env1 } (a.put o.dst r) := by
          have := h.put (v := v) (st' := { st with env := env1 }) (dst := o.dst) hv h.mem (Evo.refl _ _ _) rfl hd
          rw [hdst] at this ⊢
          exact this
        exact execD_sound hC l io' hio _ { st with env := (d, v) :: env1 } env' h' hs hQ
      rcases want_sound (w := w) (ι := ι) (m := st.mem) h.env hg hs with ⟨hwant, env1, he1, hs⟩ | ⟨hwant, env1, he1, hs⟩
      · rw [hwant]
        have h := h.withEnv he1
        have next := fun v r hr hs => next env1 v r h hr hs
        simp only [if_true, Option.bind_eq_some_iff] at hs ⊢
        obtain ⟨v, hv, hs⟩ := hs
        have quiet : stepQ env1 st.mem i.i = some v → o.quiet P a (fun w' => Below w.heap.size w w') (wpQuiet P ops (fun w' => Below w.heap.size w w') (fun a' => SR P base nt w0 ι0 m0 w ι { st with env := env' } a') l) :=
          fun hq => quiet_does h (stepQ_sound h.mem.sim h.env hi hq) fun r hr => next v r hr hs
        cases hii : i.i with
        | call f args =>
          rw [hii] at hi hv
          obtain ⟨c, hop, hc, rfl⟩ := inv_call hi
          simp only [stepD, Option.bind_eq_some_iff] at hv
          obtain ⟨ret, hr, hv⟩ := hv
          split at hv
          · rename_i hcond
            injection hv with hv
            subst hv
            exact quiet_call hC h hop hc rfl hr hcond.1 hcond.2.1 hcond.2.2 fun r hr => next _ r hr hs
          · cases hv
        | callv x args =>
          rw [hii] at hi hv
          obtain ⟨c, t, hop, hc, rfl, rfl⟩ := inv_callv hi
          simp only [stepD] at hv
          split at hv
          · rename_i f hp
            simp only [Option.bind_eq_some_iff] at hv
            obtain ⟨ret, hr, hv⟩ := hv
            split at hv
            · rename_i hcond
              injection hv with hv
              subst hv
              have hv' := h.env t
              have hp' : get env1 t = .c (.fn f) := hp
              have hp2 : get ({ st with env := env1 } : St).env t = .c (.fn f) := hp
              rw [hp2] at hv'
              exact quiet_call hC h hop hc hv'.fn hr hcond.1 hcond.2.1 hcond.2.2 fun r hr => next _ r hr hs
            · cases hv
          · rename_i f ns hp
            simp only [Option.bind_eq_some_iff] at hv
            obtain ⟨ret, hr, hv⟩ := hv
            split at hv
            · rename_i hcond
              injection hv with hv
              subst hv
              have hv' := h.env t
              have hp' : get env1 t = .c (.clo f ns) := hp
              have hp2 : get ({ st with env := env1 } : St).env t = .c (.clo f ns) := hp
              rw [hp2] at hv'
              exact quiet_callc hC h hop hc hv'.clo hr hcond.1 hcond.2.1 hcond.2.2 fun r hr => next _ r hr hs
            · cases hv
          · cases hv
        | _ => rw [hii] at hv quiet; exact quiet hv
      · rw [hwant]
        have h := h.withEnv he1
        simp only [Bool.false_eq_true, if_false] at hs ⊢
        have := next env1 (.c .undef) undef h (.c .undef) hs
        rw [hdst] at this
        exact this

/-! ### Code -/
def Ex.real : Ex → Exit
  | .norm => .normal
  | .exit id => .exit id
  | .ret => .ret

/-- What a piece of code comes to. -/
def Post (P : Program) (base nt : Nat) (w0 : World) (ι0 : Nat → Nat × Nat) (m0 : List Blk) (e : Ex) (st : St) (ex : Exit) (a : Act) (w : World) : Prop := ex = e.real ∧ ∃ ι, SR P base nt w0 ι0 m0 w ι st a

theorem exec_sound (hC : CallOk P call) (L : Nat) (keep : Keep) : ∀ (c : Code) (ic : IC), trC P nt keep c = some ic → ∀ (kp : Option (List Nat)) (w : World) (ι : Nat → Nat × Nat) (a : Act) (st : St) (p : Ex × St), SR P base nt w0 ι0 m0 w ι st a → exec call L m0.length kp ic st = some p →
    c.wp P (Post P base nt w0 ι0 m0 p.1 p.2) a w := by
  intro c
  induction c with
  | skip =>
    intro ic ht kp w ι a st p h hs
    simp only [trC, Option.some.injEq] at ht
    subst ht
    simp only [exec, Option.some.injEq] at hs
    subst hs
    exact wp_skip ⟨rfl, ι, h⟩
  | region id ops draw =>
    intro ic ht kp w ι a st p h hs
    simp only [trC] at ht
    split at ht
    · cases ht
    · rename_i hcond
      simp only [Option.bind_eq_some_iff] at ht
      obtain ⟨io, hio, ht⟩ := ht
      split at ht
      · rename_i hE
        have hdr : draw = true := by
          cases draw with
          | true => rfl
          | false => simp at hE
        subst hdr
        simp only [trRE] at ht
        split at ht
        · rename_i hok
          injection ht with ht
          subst ht
          simp only [exec, Option.bind_eq_some_iff, Option.some.injEq] at hs
          obtain ⟨st', hs, rfl⟩ := hs
          simp only [Bool.true_and, Bool.not_eq_true', Bool.and_eq_true, Bool.not_eq_false'] at hcond
          have hcond' : P.follows .mixedOrders = true := by
            have : P.follows .mixedOrders = true ∧ Region.lexB .any ops = true := by simpa using hcond
            exact this.1
          refine wp_region_any hcond' ?_
          have h1 : Below w.heap.size w { w with drawn := w.drawn + 1 } := (Below.refl _ _).drew
          have hsr : SR P base nt w0 ι0 m0 { w with drawn := w.drawn + 1 } ι st a := ⟨h.mem.later h1, h.env.below h1, h.defers, h.size⟩
          have htr := trR_of hio hok
          have hall : todo (Array.replicate ops.size false) (trE (reachL ops) io 0 0 io) = trE (reachL ops) io 0 0 io := by
            unfold todo
            rw [List.filter_eq_self]
            intro e he
            obtain ⟨k, hk⟩ := List.getElem?_of_mem he
            have hlt : k < ops.size := by rw [← htr.len]; exact (List.getElem?_eq_some_iff.1 hk).1
            rw [htr.ix k e hk]
            simp [hlt]
          refine regE_sound (n := st.mem.length) hC htr h.mem.evo.len ops.size _ _ ι a _ st' (by simp) (fun k o ho hl => by simp [Array.getD_eq_getD_getElem?, Array.getElem?_replicate] at hl; split at hl <;> simp_all) (by rw [hall, htr.len]; exact Nat.le_refl _) (hsr.dead _) (by rw [hall]; exact hs) fun w' ι' a' t' h' he => ⟨rfl, ι', h'.eqv he.symm⟩
        · cases ht
      injection ht with ht
      subst ht
      cases draw with
      | false =>
        simp only [exec, Option.bind_eq_some_iff, Option.some.injEq] at hs
        obtain ⟨st', hs, rfl⟩ := hs
        exact wp_region_list (execOps_sound hC ops.toList io hio w ι a st st' h hs fun w' ι' a' h' => ⟨rfl, ι', h'⟩)
      | true =>
        simp only [exec, Option.bind_eq_some_iff, Option.some.injEq] at hs
        obtain ⟨env', hs, rfl⟩ := hs
        simp only [Bool.true_and, Bool.not_eq_true', Bool.and_eq_true, Bool.not_eq_false'] at hcond
        have hcond' : P.follows .mixedOrders = true ∧ Region.lexB .any ops = true := by
          simpa using hcond
        have h1 : Below w.heap.size w { w with drawn := w.drawn + 1 } := (Below.refl _ _).drew
        refine wp_region_quiet (C := fun w' => Below w.heap.size w w') hcond'.1 hcond'.2 h1 ?_
        have := execD_sound (Q := fun _ _ _ => True) hC ops.toList io hio a st env' h hs (fun _ _ => trivial)
        have mono : ∀ (l : List Oper) (a : Act), wpQuiet P ops (fun w' => Below w.heap.size w w') (fun a' => SR P base nt w0 ι0 m0 w ι { st with env := env' } a') l a →
            wpQuiet P ops (fun w' => Below w.heap.size w w') (fun a' => ∀ w', Below w.heap.size w w' → Post P base nt w0 ι0 m0 .norm { st with env := env' } .normal a' w') l a := by
          intro l
          induction l with
          | nil =>
            intro a hq w' hw
            exact ⟨rfl, ι, hq.mem.later hw, hq.env.below hw, hq.defers, hq.size⟩
          | cons o l ih =>
            intro a hq
            unfold wpQuiet at hq ⊢
            split
            · rename_i hc
              rw [if_pos hc] at hq
              obtain ⟨v, h1, h2⟩ := hq
              exact ⟨v, h1, ih _ h2⟩
            · rename_i hc
              rw [if_neg hc] at hq
              exact ih _ hq
        exact mono _ _ this
  | seq x y ihx ihy =>
    intro ic ht kp w ι a st p h hs
    simp only [trC, Option.bind_eq_some_iff, Option.map_eq_some_iff] at ht
    obtain ⟨cx, hx, cy, hy, rfl⟩ := ht
    simp only [exec, Option.bind_eq_some_iff] at hs
    obtain ⟨q, hq, hs⟩ := hs
    refine wp_seq (wp_mono (ihx cx hx kp w ι a st q h hq) fun ex a' w' hp => ?_)
    obtain ⟨he, ι', h'⟩ := hp
    cases hq1 : q.1 with
    | norm =>
      rw [hq1] at he hs
      subst he
      exact ihy cy hy kp w' ι' a' q.2 p h' hs
    | exit id =>
      rw [hq1] at he hs
      injection hs with hs
      subst he; subst hs
      exact ⟨rfl, ι', h'⟩
    | ret =>
      rw [hq1] at he hs
      injection hs with hs
      subst he; subst hs
      exact ⟨rfl, ι', h'⟩
  | cond c x y ihx ihy =>
    intro ic ht kp w ι a st p h hs
    simp only [trC, Option.bind_eq_some_iff, Option.map_eq_some_iff] at ht
    obtain ⟨cx, hx, cy, hy, rfl⟩ := ht
    simp only [exec, Option.bind_eq_some_iff] at hs
    obtain ⟨t, hb, hs⟩ := hs
    have hc := ev_VR h.env c
    rw [bool?_some hb] at hc
    cases t with
    | true =>
      simp only [if_true] at hs
      exact wp_cond_true hc.bool (ihx cx hx kp w ι a st p h hs)
    | false =>
      simp only [Bool.false_eq_true, if_false] at hs
      exact wp_cond_false hc.bool (ihy cy hy kp w ι a st p h hs)
  | block id b ih =>
    intro ic ht kp w ι a st p h hs
    simp only [trC, Option.map_eq_some_iff] at ht
    obtain ⟨cb, hb, rfl⟩ := ht
    simp only [exec, Option.bind_eq_some_iff] at hs
    obtain ⟨q, hq, hs⟩ := hs
    refine wp_block (wp_mono (ih cb hb _ w ι a st q h hq) fun ex a' w' hp => ?_)
    obtain ⟨he, ι', h'⟩ := hp
    cases hq1 : q.1 with
    | norm =>
      rw [hq1] at he hs
      injection hs with hs
      subst he; subst hs
      exact ⟨rfl, ι', h'.trim _⟩
    | exit j =>
      rw [hq1] at he hs
      simp only at hs
      subst he
      simp only [Ex.real, Exit.inBlock]
      split at hs
      · rename_i hj
        injection hs with hs
        subst hs
        rw [if_pos hj]
        exact ⟨rfl, ι', h'.trim _⟩
      · rename_i hj
        injection hs with hs
        subst hs
        rw [if_neg hj]
        exact ⟨rfl, ι', h'⟩
    | ret =>
      rw [hq1] at he hs
      injection hs with hs
      subst he; subst hs
      exact ⟨rfl, ι', h'⟩
  | loop b ih =>
    intro ic ht kp w ι a st p h hs
    simp only [trC, Option.map_eq_some_iff] at ht
    obtain ⟨cb, hb, rfl⟩ := ht
    simp only [exec] at hs
    have key : ∀ (n : Nat) (w : World) (ι : Nat → Nat × Nat) (a : Act) (st : St), SR P base nt w0 ι0 m0 w ι st a → iter (fun s => exec call L m0.length none cb s) (trim m0.length kp) n st = some p → Code.rounds P b (Post P base nt w0 ι0 m0 p.1 p.2) n a w := by
      intro n
      induction n with
      | zero => intro w ι a st h hs; cases hs
      | succ n ihn =>
        intro w ι a st h hs
        simp only [iter, Option.bind_eq_some_iff] at hs
        obtain ⟨q, hq, hs⟩ := hs
        rw [rounds_succ]
        refine wp_mono (ih cb hb none w ι a _ q (h.trim kp) hq) fun ex a' w' hp => ?_
        obtain ⟨he, ι', h'⟩ := hp
        cases hq1 : q.1 with
        | norm =>
          rw [hq1] at he hs
          subst he
          exact ihn w' ι' a' q.2 h' hs
        | exit id =>
          rw [hq1] at he hs
          injection hs with hs
          subst he; subst hs
          exact ⟨rfl, ι', h'⟩
        | ret =>
          rw [hq1] at he hs
          injection hs with hs
          subst he; subst hs
          exact ⟨rfl, ι', h'⟩
    exact wp_loop_rounds L (key L w ι a st h hs)
  | exit id =>
    intro ic ht kp w ι a st p h hs
    simp only [trC, Option.some.injEq] at ht
    subst ht
    simp only [exec, Option.some.injEq] at hs
    subst hs
    exact wp_exit ⟨rfl, ι, h⟩
  | ret =>
    intro ic ht kp w ι a st p h hs
    simp only [trC, Option.some.injEq] at ht
    subst ht
    simp only [exec, Option.some.injEq] at hs
    subst hs
    exact wp_ret ⟨rfl, ι, h.trim (some keep.r)⟩
  | _ => intro ic ht; cases ht
end
end Go.Proofs.Ytkoloapgeilbdaa
