/-
 The abstract machine is sound: regions and code.
-/
import Derived.Test.YtfbeplbcaanimaaGreatMC
import Derived.ProofKit
import Derived.OpenShut
set_option linter.unusedVariables false
set_option linter.unusedSimpArgs false
namespace Go.Proofs.YtfbeplbcaanimaaGreat
open Go.RowKit
section
variable {P : Program} {base nt : Nat} {w0 w w' : World} {ι0 ι ι' : Nat → Nat × Nat} {m0 m m' : List Blk} {a : Act} {o : Oper} {st : St} {e : Nat} {wr : Nat}
 {call : FuncId → List V → List Blk → Option Ret} {env : List (Nat × V)} {ops : Array Oper}
theorem trOps_cons {l : List Oper} {io : List IOp} (h : trOps P ops nt (o :: l) = some io) :
  ∃ (i : IOp) (io' : List IOp), io = ⟨o.dst, i.gd, i.i⟩ :: io' ∧ trI P o.op = some i.i ∧ trOps P ops nt l = some io' ∧ (∀ d, o.dst = some d → d < nt) ∧
   ((o.guard = none ∧ i.gd = none) ∨ ∃ j b t, o.guard = some (j, b) ∧ i.gd = some (t, b) ∧ (ops[j]?).bind (·.dst) = some t) := by
 simp only [trOps, Option.bind_eq_some_iff] at h
 obtain ⟨i, hi, io', hio, h⟩ := h
 split at h
 ·rename_i d hd
  split at h
  ·rename_i hlt
   split at h
   ·rename_i hg
    injection h with h
    exact ⟨⟨some d, none, i⟩, io', by rw [← h, hd], hi, hio, (fun d' hd' => by rw [hd] at hd'; injection hd' with hd'; exact hd' ▸ hlt), .inl ⟨hg, rfl⟩⟩
   ·rename_i j b hg
    simp only [Option.bind_eq_some_iff] at h
    obtain ⟨t, ht, h⟩ := h
    injection h with h
    exact ⟨⟨some d, some (t, b), i⟩, io', by rw [← h, hd], hi, hio, (fun d' hd' => by rw [hd] at hd'; injection hd' with hd'; exact hd' ▸ hlt), .inr ⟨j, b, t, hg, rfl, by simpa [Option.bind_eq_some_iff] using ht⟩⟩
  ·cases h
 ·rename_i hd
  split at h
  ·rename_i hg
   injection h with h
   exact ⟨⟨none, none, i⟩, io', by rw [← h, hd], hi, hio, (fun d' hd' => by rw [hd] at hd'; cases hd'), .inl ⟨hg, rfl⟩⟩
  ·rename_i j b hg
   simp only [Option.bind_eq_some_iff] at h
   obtain ⟨t, ht, h⟩ := h
   injection h with h
   exact ⟨⟨none, some (t, b), i⟩, io', by rw [← h, hd], hi, hio, (fun d' hd' => by rw [hd] at hd'; cases hd'), .inr ⟨j, b, t, hg, rfl, by simpa [Option.bind_eq_some_iff] using ht⟩⟩
theorem want_sound (he : EnvR w ι m env a) {gd : Option (Nat × Bool)} (hg : (o.guard = none ∧ gd = none) ∨ ∃ j b t, o.guard = some (j, b) ∧ gd = some (t, b) ∧ (ops[j]?).bind (·.dst) = some t) {α : Type} {yes no : List (Nat × V) → Option α} {r : α} (hw : want env gd yes no = some r) :
  (Region.wanted o (yielded ops a.tmps) = true ∧ ∃ env', EnvR w ι m env' a ∧ yes env' = some r) ∨ (Region.wanted o (yielded ops a.tmps) = false ∧ ∃ env', EnvR w ι m env' a ∧ no env' = some r) := by
 rcases hg with ⟨h1, rfl⟩ | ⟨j, b, t, h1, rfl, h2⟩
 ·simp only [want] at hw
  exact .inl ⟨by simp [Region.wanted, h1], env, he, hw⟩
 ·simp only [want] at hw
  have ht := he t
  split at hw
  ·rename_i x hx
   rw [hx] at ht
   have hb := ht.bool
   have htm : a.tmps[t]? = some (.bool x) := by
    cases hq : a.tmps[t]? with
    | none => simp [hq, Go.undef] at hb
    | some q => simp [hq] at hb; rw [hb]
   have hen : ∀ y, y = x → EnvR w ι m ((t, .c (.bool y)) :: env) a := by
    intro y hy t'
    simp only [get]
    split
    ·rename_i e; subst e; subst hy; exact ht
    ·exact he t'
   split at hw
   ·rename_i e
    subst e
    exact .inl ⟨by simp [Region.wanted, h1, yielded, h2, htm], _, hen x rfl, hw⟩
   ·rename_i e
    exact .inr ⟨by simp [Region.wanted, h1, yielded, h2, htm, e], _, hen (!b) (by cases x <;> cases b <;> simp_all), hw⟩
  ·rename_i hx
   rw [hx] at ht
   have : a.tmps.getD t undef = Go.undef := by
    have ht' := ht.of_c
    generalize a.tmps.getD t undef = q at ht'
    cases ht'
    rfl
   refine .inr ⟨?_, env, he, hw⟩
   cases hq : a.tmps[t]? with
   | none => simp [Region.wanted, h1, yielded, h2, hq]
   | some q =>
    have hq' : q = Go.undef := by simpa [hq] using this
    subst hq'
    simp [Region.wanted, h1, yielded, h2, hq, Go.undef]
  ·cases hw
theorem SR.withEnv (h : SR P base nt w0 ι0 m0 w ι st a) {env' : List (Nat × V)} (he : EnvR w ι st.mem env' a) : SR P base nt w0 ι0 m0 w ι { st with env := env' } a := ⟨h.mem, he, h.defers, h.size⟩
theorem execOps_sound (hC : CallOk P call) {Q : Exit → Act → World → Prop} : ∀ (l : List Oper) (io : List IOp), trOps P ops nt l = some io → ∀ (w : World) (ι : Nat → Nat × Nat) (a : Act) (st st' : St), SR P base nt w0 ι0 m0 w ι st a → execOps call m0.length io st = some st' →
  (∀ w' ι' a', SR P base nt w0 ι0 m0 w' ι' st' a' → Q .normal a' w') → wpList P ops Q l a w
 | [], io, ht, w, ι, a, st, st', h, hs, hQ => by
  simp only [trOps, Option.some.injEq] at ht
  subst ht
  simp only [execOps, Option.some.injEq] at hs
  subst hs
  exact hQ w ι a h
 | o :: l, io, ht, w, ι, a, st, st', h, hs, hQ => by
  obtain ⟨i, io', rfl, hi, hio, hd, hg⟩ := trOps_cons ht
  simp only [execOps] at hs
  unfold wpList
  rcases want_sound (w := w) (ι := ι) (m := st.mem) h.env hg hs with ⟨hwant, env', he', hs⟩ | ⟨hwant, env', he', hs⟩
  ·rw [hwant]
   have h := h.withEnv he'
   simp only [if_true, Option.bind_eq_some_iff] at hs ⊢
   obtain ⟨p, hp, hs⟩ := hs
   left
   refine (step_sound hC h hi (v := p.1) (st' := p.2) hp fun w' ι' r hv hm hev => ?_).2
   have henv : p.2.env = env' := (step_sound (K := fun _ _ => True) (Q := fun _ _ _ => True) hC h hi (v := p.1) (st' := p.2) hp fun _ _ _ _ _ _ => trivial).1
   exact execOps_sound hC l io' hio w' ι' _ _ st' (h.put hv hm hev henv hd) hs hQ
  ·rw [hwant]
   have h := h.withEnv he'
   simp only [Bool.false_eq_true, if_false] at hs ⊢
   exact execOps_sound hC l io' hio w ι _ _ st' (h.put (st' := { st with env := env' }) (.c .undef) h.mem (Evo.refl _ _ _) rfl hd) hs hQ
theorem trOps_get : ∀ (l : List Oper) (io : List IOp), trOps P ops nt l = some io → io.length = l.length ∧ ∀ (k : Nat) (o : Oper), l[k]? = some o → ∃ i, io[k]? = some i ∧ i.dst = o.dst ∧ trI P o.op = some i.i ∧ (∀ d, o.dst = some d → d < nt) ∧
      ((o.guard = none ∧ i.gd = none) ∨ ∃ j b t, o.guard = some (j, b) ∧ i.gd = some (t, b) ∧ (ops[j]?).bind (·.dst) = some t)
 | [], io, h => by
  simp only [trOps, Option.some.injEq] at h
  subst h
  exact ⟨rfl, by simp⟩
 | o :: l, io, h => by
  obtain ⟨i, io', rfl, hi, hio, hd, hg⟩ := trOps_cons h
  obtain ⟨h1, h2⟩ := trOps_get l io' hio
  refine ⟨by simp [h1], fun k o' hk => ?_⟩
  cases k with
  | zero =>
   simp only [List.getElem?_cons_zero, Option.some.injEq] at hk
   subst hk
   exact ⟨_, rfl, rfl, hi, hd, hg⟩
  | succ k => simpa using h2 k o' (by simpa using hk)
theorem trR_of {io : List IOp} (h : trOps P ops nt ops.toList = some io) {R : List (List Nat)} {cl : Bool} (hok : regOk ops R (trE cl R io 0 0 io) = true) : TrR P nt ops R (trE cl R io 0 0 io) := by
 obtain ⟨h1, h2⟩ := trOps_get _ _ h
 have hm := trE_op (cl := cl) (R := R) (all := io) io 0 0
 have hlen : (trE cl R io 0 0 io).length = io.length := by rw [← List.length_map (f := fun e : EOp => e.op), hm]
 have hlen2 : (trE cl R io 0 0 io).length = ops.size := by rw [hlen, h1]; simp
 have hget : ∀ (k : Nat) (i : IOp), io[k]? = some i → ∃ e, (trE cl R io 0 0 io)[k]? = some e ∧ e.op = i := fun k i hi => by
  rw [← hm, List.getElem?_map, Option.map_eq_some_iff] at hi
  exact hi
 refine ⟨by unfold regOk at hok; rw [Bool.and_eq_true] at hok; exact hok.1, hlen2, fun k o ho => ?_, fun k e he => ?_, fun k o ho => ?_, fun j k x y hjk hx hy => ?_⟩
 ·obtain ⟨i, q1, q2, q3, q4, q5⟩ := h2 k o (by simpa using ho)
  obtain ⟨e, r1, r2⟩ := hget k i q1
  exact ⟨e, r1, by rw [r2]; exact q2, by rw [r2]; exact q3, q4, by unfold GdR; rw [r2]; exact q5⟩
 ·obtain ⟨_, i, r1, r2, _⟩ := regOk_spec hok (List.getElem?_eq_some_iff.1 he).1
  rw [he] at r1
  injection r1 with r1
  rw [r1]; exact r2
 ·have hlt : k < ops.size := (Array.getElem?_eq_some_iff.1 ho).1
  obtain ⟨⟨o', r1, r2⟩, _⟩ := regOk_spec hok (by rw [hlen2]; exact hlt)
  rw [ho] at r1
  injection r1 with r1
  rw [r1]; exact r2
 ·obtain ⟨_, i, r1, _, r3⟩ := regOk_spec hok (List.getElem?_eq_some_iff.1 hy).1
  rw [hy] at r1
  injection r1 with r1
  rcases r3 j hjk with q | ⟨x', q1, q2⟩
  ·exact .inl q
  ·right
   rw [hx] at q1
   injection q1 with q1
   rw [q1, r1]; exact q2
theorem quiet_does (h : SR P base nt w0 ι0 m0 w ι st a) {v : V} (hd : Does P w ι st.mem a o v) {K : Act → Prop} (hK : ∀ r, VR w ι st.mem v r → K (a.put o.dst r)) : o.quiet P a (fun w' => Below w.heap.size w w') K := by
 obtain ⟨r, h1, h2⟩ := hd
 refine ⟨r, fun w' hw => ?_, hK r h1⟩
 unfold Oper.quietAt
 rw [h2 w' hw]
 exact ⟨rfl, rfl⟩
theorem quiet_call (hC : CallOk P call) (h : SR P base nt w0 ι0 m0 w ι st a) {c : Call} {f : FuncId} (ho : o.op = .call c) {x : Operand} (hx : c.callee = .value x) (hv : a.eval x = .func (.func f) #[] #[]) {ret : Ret}
  (hr : call f ((c.args.toList.map trO).map (·.ev st.env)) st.mem = some ret) (hwr : ret.wr = 0) (hlen : ret.mem.length = st.mem.length) (hh : ret.v.hard = true) {K : Act → Prop} (hK : ∀ r, VR w ι st.mem ret.v r → K (a.put o.dst r)) :
  o.quiet P a (fun w' => Below w.heap.size w w') K := by
 obtain ⟨hf, hcall⟩ := hC f _ st.mem ret hr
 refine ⟨ret.v.real, fun w' hw => ?_, hK _ (V.hard_VR hh)⟩
 unfold Oper.quietAt
 rw [run_call ho hx hv hf w']
 refine ⟨rfl, ?_⟩
 obtain ⟨h1, h2⟩ := args_VR (h.env.below hw) c.args.toList
 have hc := hcall base w' ι (c.args.toList.map a.eval) (h.mem.sim.below hw) h1 h2
 have ha : (c.args.toList.map a.eval).toArray = c.args.map a.eval := by apply Array.ext'; simp
 rw [ha] at hc
 refine hc.mono fun e w'' ⟨r, ι', he, hv', hm⟩ => ?_
 rw [hwr] at hm
 exact ⟨by rw [he, V.hard_eq hh hv'], hw.trans (hm.below.1.mono hw.size)⟩
theorem quiet_callc (hC : CallOk P call) (h : SR P base nt w0 ι0 m0 w ι st a) {c : Call} {f : FuncId} (ho : o.op = .call c) {x : Operand} (hx : c.callee = .value x) {ns : List (IntKind × Int)} (hv : a.eval x = .func (.func f) #[] (ns.map fun p => Value.int p.1 p.2).toArray) {ret : Ret}
  (hr : call f ((c.args.toList.map trO).map (·.ev st.env) ++ capV ns) st.mem = some ret) (hwr : ret.wr = 0) (hlen : ret.mem.length = st.mem.length) (hh : ret.v.hard = true) {K : Act → Prop} (hK : ∀ r, VR w ι st.mem ret.v r → K (a.put o.dst r)) :
  o.quiet P a (fun w' => Below w.heap.size w w') K := by
 obtain ⟨hf, hcall⟩ := hC f _ st.mem ret hr
 refine ⟨ret.v.real, fun w' hw => ?_, hK _ (V.hard_VR hh)⟩
 unfold Oper.quietAt
 rw [run_callc ho hx hv hf w']
 refine ⟨rfl, ?_⟩
 obtain ⟨h1, h2⟩ := args_VRc (h.env.below hw) c.args.toList ns
 have hc := hcall base w' ι (c.args.toList.map a.eval ++ ns.map fun p => Value.int p.1 p.2) (h.mem.sim.below hw) h1 h2
 have ha : (c.args.toList.map a.eval ++ ns.map fun p => Value.int p.1 p.2).toArray = c.args.map a.eval ++ (ns.map fun p => Value.int p.1 p.2).toArray := by apply Array.ext'; simp
 rw [ha] at hc
 refine hc.mono fun e w'' ⟨r, ι', he, hv', hm⟩ => ?_
 rw [hwr] at hm
 exact ⟨by rw [he, V.hard_eq hh hv'], hw.trans (hm.below.1.mono hw.size)⟩
theorem execD_sound (hC : CallOk P call) {Q : Exit → Act → World → Prop} : ∀ (l : List Oper) (io : List IOp), trOps P ops nt l = some io → ∀ (a : Act) (st : St) (env' : List (Nat × V)), SR P base nt w0 ι0 m0 w ι st a → execD call st.mem io st.env = some env' →
  (∀ a', SR P base nt w0 ι0 m0 w ι { st with env := env' } a' → Q .normal a' w) → wpQuiet P ops (fun w' => Below w.heap.size w w') (fun a' => SR P base nt w0 ι0 m0 w ι { st with env := env' } a') l a
 | [], io, ht, a, st, env', h, hs, hQ => by
  simp only [trOps, Option.some.injEq] at ht
  subst ht
  simp only [execD, Option.some.injEq] at hs
  subst hs
  exact h
 | o :: l, io, ht, a, st, env', h, hs, hQ => by
  obtain ⟨i, io', rfl, hi, hio, hd, hg⟩ := trOps_cons ht
  simp only [execD] at hs
  unfold wpQuiet
  cases hdst : o.dst with
  | none => rw [hdst] at hs; cases hs
  | some d =>
   rw [hdst] at hs
   simp only at hs
   have next : ∀ (env1 : List (Nat × V)) (v : V) (r : Value), SR P base nt w0 ι0 m0 w ι { st with env := env1 } a → VR w ι st.mem v r → execD call st.mem io' ((d, v) :: env1) = some env' → wpQuiet P ops (fun w' => Below w.heap.size w w') (fun a' => SR P base nt w0 ι0 m0 w ι { st with env := env' } a') l (a.put o.dst r) := by
    intro env1 v r h hv hs
    have h' : SR P base nt w0 ι0 m0 w ι { st with env := (d, v) :: env1 } (a.put o.dst r) := by
     have := h.put (v := v) (st' := { st with env := env1 }) (dst := o.dst) hv h.mem (Evo.refl _ _ _) rfl hd
     rw [hdst] at this ⊢
     exact this
    exact execD_sound hC l io' hio _ { st with env := (d, v) :: env1 } env' h' hs hQ
   rcases want_sound (w := w) (ι := ι) (m := st.mem) h.env hg hs with ⟨hwant, env1, he1, hs⟩ | ⟨hwant, env1, he1, hs⟩
   ·rw [hwant]
    have h := h.withEnv he1
    have next := fun v r hr hs => next env1 v r h hr hs
    simp only [if_true, Option.bind_eq_some_iff] at hs ⊢
    obtain ⟨v, hv, hs⟩ := hs
    have quiet : stepQ env1 st.mem i.i = some v → o.quiet P a (fun w' => Below w.heap.size w w') (wpQuiet P ops (fun w' => Below w.heap.size w w') (fun a' => SR P base nt w0 ι0 m0 w ι { st with env := env' } a') l) :=
     fun hq => quiet_does h (stepQ_sound h.mem.sim h.env hi hq) fun r hr => next v r hr hs
    cases hii : i.i with
    | call f args =>
     rw [hii] at hi hv
     obtain ⟨c, hop, hc, rfl⟩ := inv_call hi
     simp only [stepD, Option.bind_eq_some_iff] at hv
     obtain ⟨ret, hr, hv⟩ := hv
     split at hv
     ·rename_i hcond
      injection hv with hv
      subst hv
      exact quiet_call hC h hop hc rfl hr hcond.1 hcond.2.1 hcond.2.2 fun r hr => next _ r hr hs
     ·cases hv
    | callv x args =>
     rw [hii] at hi hv
     obtain ⟨c, t, hop, hc, rfl, rfl⟩ := inv_callv hi
     simp only [stepD] at hv
     split at hv
     ·rename_i f hp
      simp only [Option.bind_eq_some_iff] at hv
      obtain ⟨ret, hr, hv⟩ := hv
      split at hv
      ·rename_i hcond
       injection hv with hv
       subst hv
       have hv' := h.env t
       have hp' : get env1 t = .c (.fn f) := hp
       have hp2 : get ({ st with env := env1 } : St).env t = .c (.fn f) := hp
       rw [hp2] at hv'
       exact quiet_call hC h hop hc hv'.fn hr hcond.1 hcond.2.1 hcond.2.2 fun r hr => next _ r hr hs
      ·cases hv
     ·rename_i f ns hp
      simp only [Option.bind_eq_some_iff] at hv
      obtain ⟨ret, hr, hv⟩ := hv
      split at hv
      ·rename_i hcond
       injection hv with hv
       subst hv
       have hv' := h.env t
       have hp' : get env1 t = .c (.clo f ns) := hp
       have hp2 : get ({ st with env := env1 } : St).env t = .c (.clo f ns) := hp
       rw [hp2] at hv'
       exact quiet_callc hC h hop hc hv'.clo hr hcond.1 hcond.2.1 hcond.2.2 fun r hr => next _ r hr hs
      ·cases hv
     ·cases hv
    | _ => rw [hii] at hv quiet; exact quiet hv
   ·rw [hwant]
    have h := h.withEnv he1
    simp only [Bool.false_eq_true, if_false] at hs ⊢
    have := next env1 (.c .undef) undef h (.c .undef) hs
    rw [hdst] at this
    exact this
def Ex.real : Ex → Exit
 | .norm => .normal
 | .exit id => .exit id
 | .ret => .ret
def Post (P : Program) (base nt : Nat) (w0 : World) (ι0 : Nat → Nat × Nat) (m0 : List Blk) (e : Ex) (st : St) (ex : Exit) (a : Act) (w : World) : Prop := ex = e.real ∧ ∃ ι, SR P base nt w0 ι0 m0 w ι st a
theorem exec_sound (hC : CallOk P call) (L : Nat) (keep : Keep) : ∀ (c : Code) (ic : IC), trC P nt keep c = some ic → ∀ (kp : Option (List Nat)) (w : World) (ι : Nat → Nat × Nat) (a : Act) (st : St) (p : Ex × St), SR P base nt w0 ι0 m0 w ι st a → exec call L m0.length kp ic st = some p →
  c.wp P (Post P base nt w0 ι0 m0 p.1 p.2) a w := by
 intro c
 induction c with
 | skip =>
  intro ic ht kp w ι a st p h hs
  simp only [trC, Option.some.injEq] at ht
  subst ht
  simp only [exec, Option.some.injEq] at hs
  subst hs
  exact wp_skip ⟨rfl, ι, h⟩
 | region id ops draw =>
  intro ic ht kp w ι a st p h hs
  simp only [trC] at ht
  split at ht
  ·cases ht
  ·rename_i hcond
   simp only [Option.bind_eq_some_iff] at ht
   obtain ⟨io, hio, ht⟩ := ht
   split at ht
   ·rename_i hE
    have hdr : draw = true := by
     cases draw with
     | true => rfl
     | false => simp at hE
    subst hdr
    simp only [trRE] at ht
    split at ht
    ·rename_i hok
     injection ht with ht
     subst ht
     simp only [exec, Option.bind_eq_some_iff, Option.some.injEq] at hs
     obtain ⟨st', hs, rfl⟩ := hs
     simp only [Bool.true_and, Bool.not_eq_true', Bool.and_eq_true, Bool.not_eq_false'] at hcond
     have hcond' : P.follows .mixedOrders = true := by
      have : P.follows .mixedOrders = true ∧ Region.lexB .any ops = true := by simpa using hcond
      exact this.1
     refine wp_region_any hcond' ?_
     have h1 : Below w.heap.size w { w with drawn := w.drawn + 1 } := (Below.refl _ _).drew
     have hsr : SR P base nt w0 ι0 m0 { w with drawn := w.drawn + 1 } ι st a := ⟨h.mem.later h1, h.env.below h1, h.defers, h.size⟩
     have htr := trR_of hio hok
     have hall : todo (Array.replicate ops.size false) (trE keep.c (reachL ops) io 0 0 io) = trE keep.c (reachL ops) io 0 0 io := by
      unfold todo
      rw [List.filter_eq_self]
      intro e he
      obtain ⟨k, hk⟩ := List.getElem?_of_mem he
      have hlt : k < ops.size := by rw [← htr.len]; exact (List.getElem?_eq_some_iff.1 hk).1
      rw [htr.ix k e hk]
      simp [hlt]
     refine regE_sound (n := st.mem.length) hC htr h.mem.evo.len ops.size _ [] (fun _ => 0) _ ι a _ st' (by simp) (fun k o ho hl => by simp [Array.getD_eq_getD_getElem?, Array.getElem?_replicate] at hl; split at hl <;> simp_all) (by rw [hall, htr.len]; exact Nat.le_refl _) (by simp) (hsr.dead _) ⟨(fun i hi => by cases hi), (fun i hi => by cases hi)⟩ (by rw [todoP_nil, hall]; exact hs) fun w' ι' a' t' h' he => ⟨rfl, ι', h'.eqv he.symm⟩
    ·cases ht
   injection ht with ht
   subst ht
   cases draw with
   | false =>
    simp only [exec, Option.bind_eq_some_iff, Option.some.injEq] at hs
    obtain ⟨st', hs, rfl⟩ := hs
    exact wp_region_list (execOps_sound hC ops.toList io hio w ι a st st' h hs fun w' ι' a' h' => ⟨rfl, ι', h'⟩)
   | true =>
    simp only [exec, Option.bind_eq_some_iff, Option.some.injEq] at hs
    obtain ⟨env', hs, rfl⟩ := hs
    simp only [Bool.true_and, Bool.not_eq_true', Bool.and_eq_true, Bool.not_eq_false'] at hcond
    have hcond' : P.follows .mixedOrders = true ∧ Region.lexB .any ops = true := by
     simpa using hcond
    have h1 : Below w.heap.size w { w with drawn := w.drawn + 1 } := (Below.refl _ _).drew
    refine wp_region_quiet (C := fun w' => Below w.heap.size w w') hcond'.1 hcond'.2 h1 ?_
    have := execD_sound (Q := fun _ _ _ => True) hC ops.toList io hio a st env' h hs (fun _ _ => trivial)
    have mono : ∀ (l : List Oper) (a : Act), wpQuiet P ops (fun w' => Below w.heap.size w w') (fun a' => SR P base nt w0 ι0 m0 w ι { st with env := env' } a') l a →
      wpQuiet P ops (fun w' => Below w.heap.size w w') (fun a' => ∀ w', Below w.heap.size w w' → Post P base nt w0 ι0 m0 .norm { st with env := env' } .normal a' w') l a := by
     intro l
     induction l with
     | nil =>
      intro a hq w' hw
      exact ⟨rfl, ι, hq.mem.later hw, hq.env.below hw, hq.defers, hq.size⟩
     | cons o l ih =>
      intro a hq
      unfold wpQuiet at hq ⊢
      split
      ·rename_i hc
       rw [if_pos hc] at hq
       obtain ⟨v, h1, h2⟩ := hq
       exact ⟨v, h1, ih _ h2⟩
      ·rename_i hc
       rw [if_neg hc] at hq
       exact ih _ hq
    exact mono _ _ this
 | seq x y ihx ihy =>
  intro ic ht kp w ι a st p h hs
  simp only [trC, Option.bind_eq_some_iff, Option.map_eq_some_iff] at ht
  obtain ⟨cx, hx, cy, hy, rfl⟩ := ht
  simp only [exec, Option.bind_eq_some_iff] at hs
  obtain ⟨q, hq, hs⟩ := hs
  refine wp_seq (wp_mono (ihx cx hx kp w ι a st q h hq) fun ex a' w' hp => ?_)
  obtain ⟨he, ι', h'⟩ := hp
  cases hq1 : q.1 with
  | norm =>
   rw [hq1] at he hs
   subst he
   exact ihy cy hy kp w' ι' a' q.2 p h' hs
  | exit id =>
   rw [hq1] at he hs
   injection hs with hs
   subst he; subst hs
   exact ⟨rfl, ι', h'⟩
  | ret =>
   rw [hq1] at he hs
   injection hs with hs
   subst he; subst hs
   exact ⟨rfl, ι', h'⟩
 | cond c x y ihx ihy =>
  intro ic ht kp w ι a st p h hs
  simp only [trC, Option.bind_eq_some_iff, Option.map_eq_some_iff] at ht
  obtain ⟨cx, hx, cy, hy, rfl⟩ := ht
  simp only [exec, Option.bind_eq_some_iff] at hs
  obtain ⟨t, hb, hs⟩ := hs
  have hc := ev_VR h.env c
  rw [bool?_some hb] at hc
  cases t with
  | true =>
   simp only [if_true] at hs
   exact wp_cond_true hc.bool (ihx cx hx kp w ι a st p h hs)
  | false =>
   simp only [Bool.false_eq_true, if_false] at hs
   exact wp_cond_false hc.bool (ihy cy hy kp w ι a st p h hs)
 | block id b ih =>
  intro ic ht kp w ι a st p h hs
  simp only [trC, Option.map_eq_some_iff] at ht
  obtain ⟨cb, hb, rfl⟩ := ht
  simp only [exec, Option.bind_eq_some_iff] at hs
  obtain ⟨q, hq, hs⟩ := hs
  refine wp_block (wp_mono (ih cb hb _ w ι a st q h hq) fun ex a' w' hp => ?_)
  obtain ⟨he, ι', h'⟩ := hp
  cases hq1 : q.1 with
  | norm =>
   rw [hq1] at he hs
   injection hs with hs
   subst he; subst hs
   exact ⟨rfl, ι', h'.trim _⟩
  | exit j =>
   rw [hq1] at he hs
   simp only at hs
   subst he
   simp only [Ex.real, Exit.inBlock]
   split at hs
   ·rename_i hj
    injection hs with hs
    subst hs
    rw [if_pos hj]
    exact ⟨rfl, ι', h'.trim _⟩
   ·rename_i hj
    injection hs with hs
    subst hs
    rw [if_neg hj]
    exact ⟨rfl, ι', h'⟩
  | ret =>
   rw [hq1] at he hs
   injection hs with hs
   subst he; subst hs
   exact ⟨rfl, ι', h'⟩
 | loop b ih =>
  intro ic ht kp w ι a st p h hs
  simp only [trC, Option.map_eq_some_iff] at ht
  obtain ⟨cb, hb, rfl⟩ := ht
  simp only [exec] at hs
  have key : ∀ (n : Nat) (w : World) (ι : Nat → Nat × Nat) (a : Act) (st : St), SR P base nt w0 ι0 m0 w ι st a → iter (fun s => exec call L m0.length none cb s) (trim m0.length kp) n st = some p → Code.rounds P b (Post P base nt w0 ι0 m0 p.1 p.2) n a w := by
   intro n
   induction n with
   | zero => intro w ι a st h hs; cases hs
   | succ n ihn =>
    intro w ι a st h hs
    simp only [iter, Option.bind_eq_some_iff] at hs
    obtain ⟨q, hq, hs⟩ := hs
    rw [rounds_succ]
    refine wp_mono (ih cb hb none w ι a _ q (h.trim kp) hq) fun ex a' w' hp => ?_
    obtain ⟨he, ι', h'⟩ := hp
    cases hq1 : q.1 with
    | norm =>
     rw [hq1] at he hs
     subst he
     exact ihn w' ι' a' q.2 h' hs
    | exit id =>
     rw [hq1] at he hs
     injection hs with hs
     subst he; subst hs
     exact ⟨rfl, ι', h'⟩
    | ret =>
     rw [hq1] at he hs
     injection hs with hs
     subst he; subst hs
     exact ⟨rfl, ι', h'⟩
  exact wp_loop_rounds L (key L w ι a st h hs)
 | exit id =>
  intro ic ht kp w ι a st p h hs
  simp only [trC, Option.some.injEq] at ht
  subst ht
  simp only [exec, Option.some.injEq] at hs
  subst hs
  exact wp_exit ⟨rfl, ι, h⟩
 | ret =>
  intro ic ht kp w ι a st p h hs
  simp only [trC, Option.some.injEq] at ht
  subst ht
  simp only [exec, Option.some.injEq] at hs
  subst hs
  exact wp_ret ⟨rfl, ι, h.trim (some keep.r)⟩
 | _ => intro ic ht; cases ht
end
end Go.Proofs.YtfbeplbcaanimaaGreat
set_option linter.unusedVariables false
set_option linter.unusedSimpArgs false
namespace Go.Proofs.YtfbeplbcaanimaaGreat
open Go.RowKit
section
variable {P : Program} {base nt : Nat} {w0 w w' : World} {ι0 ι ι' : Nat → Nat × Nat} {m0 m m' : List Blk} {a : Act} {o : Oper} {st : St} {e : Nat} {wr : Nat}
 {call : FuncId → List V → List Blk → Option Ret} {env : List (Nat × V)}
theorem CR.plain {c : C} {r : Value} (h : CR w ι m c r) (hc : c.refs = 0) : CR w ι' m' c r := by
 cases h with
 | junk => exact .junk _
 | undef => exact .undef
 | bool => exact .bool _
 | int => exact .int _ _
 | str => exact .str _
 | nilp => exact .nilp
 | nils => exact .nils
 | fn => exact .fn _
 | clo => exact .clo _ _
 | flat _ hv => exact .flat _ hv
 | ptr => simp [C.refs] at hc
 | clp => simp [C.refs] at hc
 | sl => simp [C.refs] at hc
theorem pickB_some : ∀ {bs : List Nat} {l : List Blk}, pickB m bs = some l → l.length = bs.length ∧ ∀ (j b : Nat), bs[j]? = some b → ∃ blk, m[b]? = some blk ∧ l[j]? = some blk ∧ refsL blk.cs = 0
 | [], l, h => by
  simp only [pickB, Option.some.injEq] at h
  subst h
  exact ⟨rfl, by simp⟩
 | b :: r, l, h => by
  simp only [pickB, Option.bind_eq_some_iff] at h
  obtain ⟨blk, hb, h⟩ := h
  split at h
  ·rename_i hr
   simp only [Option.bind_eq_some_iff, Option.some.injEq] at h
   obtain ⟨l', hl, rfl⟩ := h
   obtain ⟨h1, h2⟩ := pickB_some hl
   refine ⟨by simp [h1], fun j b' hj => ?_⟩
   cases j with
   | zero => simp at hj; subst hj; exact ⟨blk, hb, rfl, hr⟩
   | succ j => simpa using h2 j b' (by simpa using hj)
  ·cases h
theorem pos_mem : ∀ {bs : List Nat} {n0 b : Nat}, b ∈ bs → ∃ j, bs[j]? = some b ∧ pos n0 bs b = n0 + j
 | [], n0, b, h => by cases h
 | a :: r, n0, b, h => by
  simp only [pos]
  split
  ·rename_i e; subst e; exact ⟨0, rfl, rfl⟩
  ·rename_i e
   rcases List.mem_cons.1 h with h | h
   ·exact absurd h e
   ·obtain ⟨j, h1, h2⟩ := pos_mem (n0 := n0 + 1) h
    exact ⟨j + 1, by simpa using h1, by rw [h2]; omega⟩
theorem pos_not : ∀ {bs : List Nat} {n0 b : Nat}, b ∉ bs → pos n0 bs b = b
 | [], n0, b, h => rfl
 | a :: r, n0, b, h => by
  simp only [List.mem_cons, not_or] at h
  simp only [pos, if_neg h.1]
  exact pos_not h.2
theorem nub_mem {l : List Nat} {x : Nat} : x ∈ nub l ↔ x ∈ l := by
 induction l with
 | nil => simp [nub]
 | cons a r ih =>
  simp only [nub, List.mem_cons, List.mem_filter, ih, Bool.not_eq_true', beq_eq_false_iff_ne, ne_eq]
  by_cases h : x = a <;> simp [h]
theorem nub_nodup (l : List Nat) : (nub l).Nodup := by
 induction l with
 | nil => simp [nub]
 | cons a r ih =>
  simp only [nub, List.nodup_cons, List.mem_filter, Bool.not_eq_true', beq_eq_false_iff_ne, ne_eq]
  exact ⟨fun h => h.2 trivial, ih.filter _⟩
theorem C.own_ge {c : C} {n0 b : Nat} (h : b ∈ c.own n0) : n0 ≤ b := by
 unfold C.own at h
 split at h
 ·split at h
  ·cases h
  ·simp only [List.mem_singleton] at h; omega
 ·split at h
  ·cases h
  ·simp only [List.mem_singleton] at h; omega
 ·split at h
  ·cases h
  ·simp only [List.mem_singleton] at h; omega
 ·cases h
section ren
variable {n0 : Nat} {bs : List Nat} {l : List Blk}
def keepAt (n0 : Nat) (bs : List Nat) (ι : Nat → Nat × Nat) (j : Nat) : Nat × Nat := if j < n0 then ι j else ι (bs.getD (j - n0) 0)
theorem keep_get (hT : m.take n0 = m0) (hn : m0.length = n0) (hl : pickB m bs = some l) (hge : ∀ b ∈ bs, n0 ≤ b) {b : Nat} {blk : Blk} (hb : m[b]? = some blk) (hin : b < n0 ∨ b ∈ bs) :
  (m0 ++ l)[pos n0 bs b]? = some blk ∧ keepAt n0 bs ι (pos n0 bs b) = ι b := by
 rcases hin with h | h
 ·have hnot : b ∉ bs := fun hm => by have := hge b hm; omega
  rw [pos_not hnot]
  refine ⟨?_, by simp [keepAt, h]⟩
  rw [List.getElem?_append_left (by omega), ← hT, List.getElem?_take, if_pos h]
  exact hb
 ·obtain ⟨j, h1, h2⟩ := pos_mem (n0 := n0) h
  obtain ⟨blk', g1, g2, g3⟩ := (pickB_some hl).2 j b h1
  rw [hb] at g1
  injection g1 with g1
  subst g1
  rw [h2]
  refine ⟨by rw [List.getElem?_append_right (by omega), hn, Nat.add_sub_cancel_left]; exact g2, ?_⟩
  simp only [keepAt, Nat.add_sub_cancel_left]
  rw [if_neg (by omega), List.getD_eq_getElem?_getD, h1]
  rfl
theorem CR.ren (hT : m.take n0 = m0) (hn : m0.length = n0) (hl : pickB m bs = some l) (hge : ∀ b ∈ bs, n0 ≤ b) {c : C} {r : Value} (h : CR w ι m c r) (hc : ∀ b ∈ c.own n0, b ∈ bs) :
  CR w (keepAt n0 bs ι) (m0 ++ l) (c.ren (pos n0 bs)) r := by
 cases h with
 | junk => exact .junk _
 | undef => exact .undef
 | bool => exact .bool _
 | int => exact .int _ _
 | str => exact .str _
 | nilp => exact .nilp
 | nils => exact .nils
 | fn => exact .fn _
 | clo => exact .clo _ _
 | flat _ hv => exact .flat _ hv
 | @ptr b off tot blk _ h0 hb ht ha hv =>
  have hin : b < n0 ∨ b ∈ bs := by
   rcases Nat.lt_or_ge b n0 with h | h
   ·exact .inl h
   ·exact .inr (hc b (by simp [C.own]; omega))
  obtain ⟨k1, k2⟩ := keep_get (ι := ι) hT hn hl hge hb hin
  refine .ptr h0 k1 ht ha fun e => ?_
  rw [hv e]
  unfold atA
  rw [k2]
 | @clp f b off tot blk _ h0 hb ht ha hv =>
  have hin : b < n0 ∨ b ∈ bs := by
   rcases Nat.lt_or_ge b n0 with h | h
   ·exact .inl h
   ·exact .inr (hc b (by simp [C.own]; omega))
  obtain ⟨k1, k2⟩ := keep_get (ι := ι) hT hn hl hge hb hin
  refine .clp f h0 k1 ht ha fun e => ?_
  rw [hv e]
  unfold atA
  rw [k2]
 | @sl b off len tot blk _ h0 hb ht ha hv =>
  have hin : b < n0 ∨ b ∈ bs := by
   rcases Nat.lt_or_ge b n0 with h | h
   ·exact .inl h
   ·exact .inr (hc b (by simp [C.own]; omega))
  obtain ⟨k1, k2⟩ := keep_get (ι := ι) hT hn hl hge hb hin
  refine .sl h0 k1 ht ha fun e => ?_
  obtain ⟨ad, cap, e1, e5, e2, e3, e4⟩ := hv e
  refine ⟨ad, cap, e1, fun hq => ?_, e2, e3, fun hz ho => by rw [k2]; exact e4 hz ho⟩
  rw [e5 hq]
  unfold atA
  rw [k2]
theorem AR.ren (hT : m.take n0 = m0) (hn : m0.length = n0) (hl : pickB m bs = some l) (hge : ∀ b ∈ bs, n0 ≤ b) {cs : List C} {rs : List Value} (h : AR w ι m cs rs) (hc : ∀ b ∈ cs.flatMap (·.own n0), b ∈ bs) :
  AR w (keepAt n0 bs ι) (m0 ++ l) (cs.map (·.ren (pos n0 bs))) rs := by
 refine ⟨by simp [h.1], fun j c hj => ?_⟩
 simp only [List.getElem?_map, Option.map_eq_some_iff] at hj
 obtain ⟨c0, h0, rfl⟩ := hj
 obtain ⟨r, h1, h2, h3⟩ := h.2 j c0 h0
 exact ⟨r, h1, h2.ren hT hn hl hge (fun b hb => hc b (List.mem_flatMap.2 ⟨c0, List.mem_of_getElem? h0, hb⟩)), h3⟩
theorem VR.ren (hT : m.take n0 = m0) (hn : m0.length = n0) (hl : pickB m bs = some l) (hge : ∀ b ∈ bs, n0 ≤ b) {v : V} {r : Value} (h : VR w ι m v r) (hc : ∀ b ∈ v.own n0, b ∈ bs) :
  VR w (keepAt n0 bs ι) (m0 ++ l) (v.ren (pos n0 bs)) r := by
 cases h with
 | one h =>
  cases h with
  | c h => exact .c (h.ren hT hn hl hge hc)
  | agg h => exact .agg (h.ren hT hn hl hge hc)
 | @tup vs rs hlen hh =>
  refine .tup (by simp [hlen]) fun j v hj => ?_
  simp only [List.getElem?_map, Option.map_eq_some_iff] at hj
  obtain ⟨v0, h0, rfl⟩ := hj
  obtain ⟨r, h1, h2⟩ := hh j v0 h0
  have hc' : ∀ b ∈ (match v0 with | .c x => x.own n0 | .agg cs => cs.flatMap (fun (y : C) => y.own n0) | _ => []), b ∈ bs := fun b hb => hc b (List.mem_flatMap.2 ⟨v0, List.mem_of_getElem? h0, hb⟩)
  refine ⟨r, h1, ?_⟩
  cases h2 with
  | c h2 => exact .c (h2.ren hT hn hl hge hc')
  | agg h2 => exact .agg (h2.ren hT hn hl hge hc')
end ren
theorem V.own_ge {v : V} {n0 b : Nat} (h : b ∈ v.own n0) : n0 ≤ b := by
 cases v with
 | c x => exact C.own_ge h
 | agg cs =>
  obtain ⟨c, _, hc⟩ := List.mem_flatMap.1 h
  exact C.own_ge hc
 | tup vs =>
  obtain ⟨v, _, hv⟩ := List.mem_flatMap.1 h
  cases v with
  | c x => exact C.own_ge hv
  | agg cs =>
   obtain ⟨c, _, hc⟩ := List.mem_flatMap.1 hv
   exact C.own_ge hc
  | tup vs => cases hv
theorem fin_sound (s0 : Sim base w0 ι0 m0) (h : MR base w0 ι0 m0 w ι st.mem st.esc st.wr) {v : V} {r : Value} (hv : VR w ι st.mem v r) :
  RetOk base w0 ι0 m0 (fin m0.length v st) (.returned r) w := by
 have gen : ∀ (k e' : Nat), m0.length ≤ k → st.esc ≤ k → v.refs ≤ k → st.esc ≤ e' → RetOk base w0 ι0 m0 ⟨v, st.mem.take k, e', st.wr⟩ (.returned r) w := by
  intro k e' h1 h2 h3 h4
  have hm := h.take h1 fun b blk c _ hb hc => by have := h.escM hb hc; omega
  exact ⟨r, ι, rfl, hv.take h3, ⟨hm.sim, hm.evo, hm.fr, hm.fresh, hm.bel, hm.refs0, fun b blk c hb hc => (hm.esc b blk c hb hc).imp (fun q => Nat.le_trans q h4) id⟩⟩
 unfold fin
 split
 ·rename_i hwr
  have h' := h
  rw [hwr] at h'
  obtain ⟨hB, hT⟩ := h'.below
  have evo_m0 : ∀ (b : Nat) (blk : Blk), m0[b]? = some blk → st.mem[b]? = some blk ∧ (blk.alive → ι b = ι0 b) := by
   intro b blk hb
   have hlt := (List.getElem?_eq_some_iff.1 hb).1
   have hm : st.mem[b]? = some blk := by
    have : (st.mem.take m0.length)[b]? = some blk := by rw [hT]; exact hb
    rw [List.getElem?_take, if_pos hlt] at this
    exact this
   obtain ⟨blk', g1, g⟩ := h.evo b blk hb
   rw [hm] at g1
   injection g1 with g1
   subst g1
   exact ⟨hm, fun ha => ((g ha).2.2.2 rfl).1⟩
  split
  ·-- nothing new is handed back
   rename_i hr
   have hm := h.take (k := m0.length) (Nat.le_refl _) fun b blk c hlt hb hc => by
    have hb0 : m0[b]? = some blk := by
     rw [← hT, List.getElem?_take, if_pos hlt]; exact hb
    exact s0.refs_le hb0 hc
   refine ⟨r, ι, rfl, hv.take hr, ⟨hm.sim, hm.evo, hm.fr, hm.fresh, by have := hm.bel; rw [hwr] at this; exact this, hm.refs0, fun b blk c hb hc => ?_⟩⟩
   rw [hT] at hb
   exact .inr ⟨blk, hb, hc⟩
  ·split
   ·-- what is handed back is flat
    rename_i hr l hl
    generalize hbs : nub (v.own m0.length) = bs at hl
    have hge : ∀ b ∈ bs, m0.length ≤ b := fun b hb => by rw [← hbs] at hb; exact V.own_ge (nub_mem.1 hb)
    have hnd : bs.Nodup := by rw [← hbs]; exact nub_nodup _
    obtain ⟨hll, hlp⟩ := pickB_some hl
    have hget : ∀ (j : Nat) (blk : Blk), (m0 ++ l)[j]? = some blk → (j < m0.length ∧ m0[j]? = some blk) ∨ (m0.length ≤ j ∧ ∃ b, bs[j - m0.length]? = some b ∧ st.mem[b]? = some blk ∧ refsL blk.cs = 0 ∧ keepAt m0.length bs ι j = ι b) := by
     intro j blk hj
     rcases Nat.lt_or_ge j m0.length with hlt | hge'
     ·left
      rw [List.getElem?_append_left hlt] at hj
      exact ⟨hlt, hj⟩
     ·right
      rw [List.getElem?_append_right hge'] at hj
      have hjl : j - m0.length < bs.length := by rw [← hll]; exact (List.getElem?_eq_some_iff.1 hj).1
      obtain ⟨blk', g1, g2, g3⟩ := hlp (j - m0.length) bs[j - m0.length] (by simp)
      rw [hj] at g2
      injection g2 with g2
      subst g2
      refine ⟨hge', bs[j - m0.length], by simp, g1, g3, ?_⟩
      simp only [keepAt]
      rw [if_neg (by omega)]
      simp [List.getD_eq_getElem?_getD, hjl]
    have hkeep : ∀ j, j < m0.length → keepAt m0.length bs ι j = ι j := fun j hj => by simp [keepAt, hj]
    have cellsOf : ∀ (j : Nat) (blk : Blk), (m0 ++ l)[j]? = some blk → ∃ b, st.mem[b]? = some blk ∧ keepAt m0.length bs ι j = ι b ∧ (∀ (c : C) (r : Value), c ∈ blk.cs → CR w ι st.mem c r → CR w (keepAt m0.length bs ι) (m0 ++ l) c r) ∧ (j < m0.length → b = j) ∧ (m0.length ≤ j → bs[j - m0.length]? = some b) := by
     intro j blk hj
     rcases hget j blk hj with ⟨hlt, hj0⟩ | ⟨hge', b, g1, g2, g3, g4⟩
     ·obtain ⟨hm, _⟩ := evo_m0 j blk hj0
      refine ⟨j, hm, hkeep j hlt, fun c r hc hcr => ?_, fun _ => rfl, fun h => by omega⟩
      have hcr' : c.refs ≤ m0.length := s0.refs_le hj0 hc
      have := hcr.ren hT rfl hl hge (fun b hb => by
       exfalso
       have h1 := C.own_ge hb
       unfold C.own at hb
       split at hb <;> simp_all [C.refs] <;> omega)
      have hren : c.ren (pos m0.length bs) = c := by
       cases c <;> simp only [C.ren, C.refs] at hcr' ⊢
       ·rw [pos_not (fun hm => by have := hge _ hm; omega)]
       ·rw [pos_not (fun hm => by have := hge _ hm; omega)]
       ·rw [pos_not (fun hm => by have := hge _ hm; omega)]
      rwa [hren] at this
     ·refine ⟨b, g2, g4, fun c r hc hcr => hcr.plain ?_, fun h => by omega, fun _ => g1⟩
      have := refsL_le.1 (Nat.le_of_eq g3) c hc
      omega
    have hsim : Sim base w (keepAt m0.length bs ι) (m0 ++ l) := by
     refine ⟨h.sim.le, fun j blk hj ho => ?_, fun j blk hj ho hz => ?_, fun j blk hj ho hz => by
      obtain ⟨b, b1, _⟩ := cellsOf j blk hj
      exact h.sim.non b blk b1 ho hz, fun j j' blk blk' hj hj' ho ho' he => ?_⟩
     ·obtain ⟨b, b1, b2, b3, _⟩ := cellsOf j blk hj
      obtain ⟨h1, h2, rc, h3, h4, h5⟩ := h.sim.own b blk b1 ho
      rw [b2]
      exact ⟨h1, h2, rc, h3, h4, fun k c hk => let ⟨r, q1, q2, q3⟩ := h5 k c hk; ⟨r, q1, b3 c r (List.mem_of_getElem? hk) q2, q3⟩⟩
     ·obtain ⟨b, b1, b2, b3, _⟩ := cellsOf j blk hj
      obtain ⟨h1, h2⟩ := h.sim.ro b blk b1 ho hz
      rw [b2]
      refine ⟨h1, fun k c hk => ?_⟩
      obtain ⟨r, q1, q2, q3⟩ := h2 k c hk
      refine ⟨r, ?_, b3 c r (List.mem_of_getElem? hk) q2, q3⟩
      simp only [atA, b2] at q1 ⊢
      exact q1
     ·obtain ⟨b, b1, b2, _, b4, b5⟩ := cellsOf j blk hj
      obtain ⟨b', c1, c2, _, c4, c5⟩ := cellsOf j' blk' hj'
      rw [b2, c2] at he
      have hbb := h.sim.inj b b' blk blk' b1 c1 ho ho' he
      subst hbb
      rcases Nat.lt_or_ge j m0.length with h1 | h1 <;> rcases Nat.lt_or_ge j' m0.length with h2 | h2
      ·have := b4 h1; have := c4 h2; omega
      ·have := b4 h1
       have := hge b (List.mem_of_getElem? (c5 h2))
       omega
      ·have := c4 h2
       have := hge b (List.mem_of_getElem? (b5 h1))
       omega
      ·have e1 := b5 h1
       have e2 := c5 h2
       have := (List.getElem?_inj (List.getElem?_eq_some_iff.1 e1).1 hnd).1 (e1.trans e2.symm)
       omega
    refine ⟨r, keepAt m0.length bs ι, rfl, ?_, ⟨?_, ?_, h.fr, ?_, ?_, h.refs0, ?_⟩⟩
    ·show VR w (keepAt m0.length bs ι) (st.mem.take m0.length ++ l) (v.ren (pos m0.length bs)) r
     rw [hT]
     exact hv.ren hT rfl hl hge (fun b hb => by rw [← hbs]; exact nub_mem.2 hb)
    ·show Sim base w (keepAt m0.length bs ι) (st.mem.take m0.length ++ l)
     rw [hT]; exact hsim
    ·show Evo w0 ι0 m0 w (keepAt m0.length bs ι) (st.mem.take m0.length ++ l)
     rw [hT]
     intro b blk hb
     have hlt := (List.getElem?_eq_some_iff.1 hb).1
     obtain ⟨blk', g1, g⟩ := h.evo b blk hb
     obtain ⟨q1, q2⟩ := evo_m0 b blk hb
     rw [q1] at g1
     injection g1 with g1
     subst g1
     exact ⟨blk, by rw [List.getElem?_append_left hlt]; exact hb, fun ha => ⟨rfl, rfl, Nat.le_refl _, fun _ => ⟨by rw [hkeep b hlt]; exact q2 ha, ((g ha).2.2.2 rfl).2⟩⟩⟩
    ·show Fresh w0 ι0 m0 (keepAt m0.length bs ι) (st.mem.take m0.length ++ l)
     rw [hT]
     intro j blk hj ho hlt
     obtain ⟨b, b1, b2, _⟩ := cellsOf j blk hj
     rw [b2] at hlt ⊢
     exact h.fresh b blk b1 ho hlt
    ·refine ⟨fun b hb => ?_, h'.bel.2⟩
     show (st.mem.take m0.length ++ l)[b]? = m0[b]?
     rw [hT, List.getElem?_append_left (by omega)]
    ·intro b blk c hb hc
     show c.refs ≤ 0 ∨ _
     have hb' : (m0 ++ l)[b]? = some blk := by rw [← hT]; rw [hT]; simpa [hT] using hb
     rcases hget b blk hb' with ⟨hlt, hj0⟩ | ⟨hge', b', g1, g2, g3, g4⟩
     ·exact .inr ⟨blk, hj0, hc⟩
     ·exact .inl (refsL_le.1 (Nat.le_of_eq g3) c hc)
   ·have := gen (mx m0.length (mx st.esc v.refs)) st.esc (le_mx_l _ _) (by rw [mx_eq, mx_eq]; omega) (by rw [mx_eq, mx_eq]; omega) (Nat.le_refl _)
    rw [hwr] at this
    exact this
 ·exact gen (mx m0.length (mx st.esc v.refs)) st.esc (le_mx_l _ _) (by rw [mx_eq, mx_eq]; omega) (by rw [mx_eq, mx_eq]; omega) (Nat.le_refl _)
end
end Go.Proofs.YtfbeplbcaanimaaGreat
set_option linter.unusedVariables false
set_option linter.unusedSimpArgs false
namespace Go.Proofs.YtfbeplbcaanimaaGreat
open Go.RowKit
section
variable {P : Program} {base nt : Nat} {w0 w w' : World} {ι0 ι ι' : Nat → Nat × Nat} {m0 m m' : List Blk} {a : Act} {o : Oper} {st : St} {e : Nat} {wr : Nat}
 {call : FuncId → List V → List Blk → Option Ret} {env : List (Nat × V)}
theorem get_number : ∀ (args : List V) (i t : Nat), get (number i args) t = if i ≤ t then (args[t - i]?).getD (.c .junk) else .c .junk
 | [], i, t => by simp [number, get]
 | v :: r, i, t => by
  simp only [number, get]
  by_cases h : i = t
  ·subst h; simp
  ·rw [if_neg h, get_number r (i + 1) t]
   by_cases h1 : i ≤ t
   ·rw [if_pos (by omega), if_pos h1, show t - i = (t - (i + 1)) + 1 by omega, List.getElem?_cons_succ]
   ·rw [if_neg (by omega), if_neg h1]
theorem one?_WR {v u : V} {r : Value} (h : v.one? = some u) (hv : VR w ι m v r) : u = v ∧ WR w ι m v r := by
 cases v with
 | tup vs => cases h
 | c x =>
  injection h with h
  refine ⟨h.symm, ?_⟩
  cases hv with | one hv => exact hv
 | agg cs =>
  injection h with h
  refine ⟨h.symm, ?_⟩
  cases hv with | one hv => exact hv
def resOf (fn : ResultVar) (tmps : Array Value) : Sem Value :=
 match fn with
 | .tmp t => pure (tmps.getD t undef)
 | .cell a t => do loadVar t (← asAddr (tmps.getD a undef))
theorem res1_sound (h : SR P base nt w0 ι0 m0 w ι st a) {rv : ResultVar} {ir : IR} (ht : trR P [rv] = some [ir]) {v : V} (hs : res1 st ir = some v) : ∃ r, WR w ι st.mem v r ∧ (resOf rv a.tmps).run P w = .ok r w := by
 cases rv with
 | tmp t =>
  simp only [trR, Option.map_some, Option.some.injEq, List.cons.injEq, and_true] at ht
  subst ht
  obtain ⟨rfl, h1⟩ := one?_WR hs (h.env t)
  exact ⟨_, h1, by simp [resOf]⟩
 | cell x t =>
  simp only [trR, Option.bind_eq_some_iff, Option.map_some, Option.some.injEq, List.cons.injEq, and_true] at ht
  obtain ⟨ag, hag, n, hn, rfl⟩ := ht
  have hx := h.env x
  cases ag with
  | true =>
   simp only [res1, if_true, stepQ, guard', Opd.ev] at hs
   split at hs
   ·rename_i b off tot hp
    rw [hp] at hx
    simp only [Option.bind_eq_some_iff] at hs
    obtain ⟨blk, hl, hs⟩ := hs
    split at hs
    ·rename_i hle
     injection hs with hs; subst hs
     obtain ⟨rs, h1, h2⟩ := run_load_agg (P := P) h.mem.sim hag hn (live_some hl).1 (hx.pal (live_some hl).1) off hle
     exact ⟨.agg rs.toArray, .agg (by simpa using h1), by simp only [resOf, hx.ptr hl]; simp [asAddr, h2 w (Below.refl _ _)]⟩
    ·cases hs
   ·cases hs
  | false =>
   simp only [res1, Bool.false_eq_true, if_false, stepQ, guard', Opd.ev] at hs
   split at hs
   ·rename_i b off tot hp
    rw [hp] at hx
    simp only [Option.bind_eq_some_iff] at hs
    obtain ⟨blk, hl, c, hc, hs⟩ := hs
    injection hs with hs; subst hs
    obtain ⟨r, h1, _, h2⟩ := run_load_one (P := P) h.mem.sim hag (live_some hl).1 (hx.pal (live_some hl).1) hc
    exact ⟨r, .c h1, by simp only [resOf, hx.ptr hl]; simp [asAddr, h2 w (Below.refl _ _)]⟩
   ·cases hs
theorem trR_cons {rv : ResultVar} {l : List ResultVar} {irs : List IR} (h : trR P (rv :: l) = some irs) : ∃ ir irs', irs = ir :: irs' ∧ trR P [rv] = some [ir] ∧ trR P l = some irs' := by
 cases rv with
 | tmp t =>
  simp only [trR, Option.map_eq_some_iff] at h
  obtain ⟨l', h1, rfl⟩ := h
  exact ⟨_, _, rfl, rfl, h1⟩
 | cell x t =>
  simp only [trR, Option.bind_eq_some_iff, Option.map_eq_some_iff] at h
  obtain ⟨ag, hag, n, hn, l', h1, rfl⟩ := h
  exact ⟨_, _, rfl, by simp [trR, hag, hn], h1⟩
theorem resAll_sound (h : SR P base nt w0 ι0 m0 w ι st a) : ∀ (l : List ResultVar) (irs : List IR) (vs : List V), trR P l = some irs → resAll st irs = some vs →
  ∃ rs : List Value, rs.length = vs.length ∧ (∀ (j : Nat) (v : V), vs[j]? = some v → ∃ r, rs[j]? = some r ∧ WR w ι st.mem v r) ∧ (l.mapM (fun rv => resOf rv a.tmps)).run P w = .ok rs w
 | [], irs, vs, ht, hs => by
  simp only [trR, Option.some.injEq] at ht
  subst ht
  simp only [resAll, Option.some.injEq] at hs
  subst hs
  exact ⟨[], rfl, by simp, by simp⟩
 | rv :: l, irs, vs, ht, hs => by
  obtain ⟨ir, irs', rfl, h1, h2⟩ := trR_cons ht
  simp only [resAll, Option.bind_eq_some_iff, Option.some.injEq] at hs
  obtain ⟨v, hv, vs', hvs, rfl⟩ := hs
  obtain ⟨r, k1, k2⟩ := res1_sound h h1 hv
  obtain ⟨rs, g1, g2, g3⟩ := resAll_sound h l irs' vs' h2 hvs
  refine ⟨r :: rs, by simp [g1], fun j u hj => ?_, ?_⟩
  ·cases j with
   | zero => simp at hj; subst hj; exact ⟨r, rfl, k1⟩
   | succ j => simpa using g2 j u (by simpa using hj)
  ·simp only [List.mapM_cons, Sem.run_bind, k2, Result.andThen_ok, g3, Sem.run_pure]
theorem results_sound (h : SR P base nt w0 ι0 m0 w ι st a) {fn : Func} {irs : List IR} {vs : List V} (ht : trR P fn.results.toList = some irs) (hs : resAll st irs = some vs) :
  ∃ r, VR w ι st.mem (resV vs) r ∧ (results fn a.tmps).run P w = .ok r w := by
 obtain ⟨rs, h1, h2, h3⟩ := resAll_sound h _ _ _ ht hs
 have hmap : (fn.results.mapM (fun rv => resOf rv a.tmps)).run P w = .ok rs.toArray w := by
  have : fn.results.mapM (fun rv => resOf rv a.tmps) = List.toArray <$> fn.results.toList.mapM (fun rv => resOf rv a.tmps) := by
   rw [← List.mapM_toArray]
  rw [this, Sem.run_map, h3, Result.andThen_ok]
 have hres : (results fn a.tmps).run P w = .ok (if h : rs.toArray.size = 1 then rs.toArray[0] else .tuple rs.toArray) w := by
  have : results fn a.tmps = (do let vs ← fn.results.mapM (fun rv => resOf rv a.tmps); pure (if h : vs.size = 1 then vs[0] else .tuple vs)) := by
   unfold results
   congr 1
  rw [this, Sem.run_bind, hmap]
  rfl
 clear hs h3 hmap
 match vs, rs, h1, h2, hres with
 | [v], [r], _, h2, hres =>
  obtain ⟨r', g1, g2⟩ := h2 0 v rfl
  injection g1 with g1
  subst g1
  exact ⟨r, .one g2, by rw [hres]; simp⟩
 | [], [], _, h2, hres => exact ⟨.tuple #[], .tup (by simp) (by simp), by rw [hres]; simp⟩
 | v1 :: v2 :: vs, r1 :: r2 :: rs, h1, h2, hres =>
  refine ⟨.tuple (r1 :: r2 :: rs).toArray, .tup (by simpa using h1.symm) (fun j v hj => by simpa using h2 j v hj), by rw [hres]; simp⟩
theorem runF_sound (hC : CallOk P call) (L : Nat) {f : FuncId} {fn : Func} {ifn : IFn} {keep : Keep} (hf : P.funcs[f]? = some fn) (ht : trF P keep fn = some ifn) {args : List V} {m : List Blk} {ret : Ret} (hr : runF call L ifn args m = some ret)
  {ras : List Value} (s : Sim base w ι m) (hl : args.length = ras.length) (ha : ∀ (j : Nat) (v : V), args[j]? = some v → ∃ r, ras[j]? = some r ∧ VR w ι m v r) : Calls P f ras.toArray w (RetOk base w ι m ret) := by
 simp only [trF, Option.bind_eq_some_iff, Option.map_eq_some_iff] at ht
 obtain ⟨c, hc, ib, hib, rs, hrs, rfl⟩ := ht
 simp only [runF] at hr
 split at hr
 ·rename_i hnt
  simp only [Option.bind_eq_some_iff] at hr
  obtain ⟨p, hp, hr⟩ := hr
  have hstart : SR P base fn.ntmps w ι m w ι ⟨number 0 args, m, 0, 0⟩ { tmps := ras.toArray ++ Array.replicate (fn.ntmps - ras.toArray.size) undef, defers := [] } := by
   refine ⟨MR.start s, fun t => ?_, rfl, by simp; omega⟩
   show VR w ι m (get (number 0 args) t) _
   rw [get_number]
   simp only [Nat.zero_le, if_true, Nat.sub_zero]
   cases hv : args[t]? with
   | none => exact .c (.junk _)
   | some v =>
    obtain ⟨r, h1, h2⟩ := ha t v hv
    have hlt : t < ras.length := (List.getElem?_eq_some_iff.1 h1).1
    have : (ras.toArray ++ Array.replicate (fn.ntmps - ras.toArray.size) undef).getD t undef = r := by
     rw [Array.getD_eq_getD_getElem?, Array.getElem?_append_left (by simpa using hlt)]
     simp [h1]
    rw [this]
    exact h2
  have hwp := exec_sound hC L keep c ib hib none w ι _ _ p hstart hp
  refine calls_of_wp hf hc (wp_mono hwp fun ex a' w' hq => ?_)
  obtain ⟨he, ι', h'⟩ := hq
  have fine : (∀ id, p.1 ≠ .exit id) → ((resAll p.2 rs).bind fun vs => some (fin m.length (resV vs) p.2)) = some ret → bodyPost P fn (RetOk base w ι m ret) ex a' w' := by
   intro hne hr
   simp only [Option.bind_eq_some_iff, Option.some.injEq] at hr
   obtain ⟨vs, hvs, rfl⟩ := hr
   obtain ⟨r, h1, h2⟩ := results_sound h' hrs hvs
   have h3 := fin_sound s h'.mem h1
   cases hp1 : p.1 with
   | norm => rw [hp1] at he; subst he; exact ⟨h'.defers, r, h2, h3⟩
   | ret => rw [hp1] at he; subst he; exact ⟨h'.defers, r, h2, h3⟩
   | exit id => exact absurd hp1 (hne id)
  cases hp1 : p.1 with
  | norm => rw [hp1] at hr; exact fine (by simp [hp1]) hr
  | ret => rw [hp1] at hr; exact fine (by simp [hp1]) hr
  | exit id => rw [hp1] at hr; cases hr
 ·cases hr
def TabOk (P : Program) (T : FuncId → Option IFn) : Prop :=
 ∀ (f : FuncId) (ifn : IFn), T f = some ifn → ∃ fn keep, P.funcs[f]? = some fn ∧ trF P keep fn = some ifn ∧ fn.name ≠ "runtime.NumGoroutine"
theorem den_sound {T : FuncId → Option IFn} {X : FuncId → List V → List Blk → Option Ret} (hT : TabOk P T) (hX : CallOk P X) (L : Nat) : ∀ k, CallOk P (den T X L k)
 | 0 => hX
 | k + 1 => by
  intro f args m ret hr
  simp only [den] at hr
  split at hr
  ·rename_i ifn hf
   obtain ⟨fn, keep, h1, h2, h3⟩ := hT f ifn hf
   refine ⟨⟨fn, h1, fun hb => ?_, h3⟩, fun base w ι ras s hl ha => runF_sound (den_sound hT hX L k) L h1 h2 hr s hl ha⟩
   simp [trF, hb] at h2
  ·exact hX f args m ret hr
theorem sim_nil (w : World) : Sim w.heap.size w (fun _ => (0, 0)) [] := ⟨Nat.le_refl _, by simp, by simp, by simp, by simp⟩
end
end Go.Proofs.YtfbeplbcaanimaaGreat
set_option linter.unusedVariables false
namespace Go.Proofs.YtfbeplbcaanimaaGreat
abbrev ci (n : Int) : C := .int .i64 n
abbrev cb (b : Bool) : C := .bool b
abbrev vi (n : Int) : V := .c (.int .i64 n)
abbrev vb (b : Bool) : V := .c (.bool b)
def ints (xs : List Int) : List C := xs.map (.int .i64)
theorem ite_bind {α β : Type} (c : Prop) [Decidable c] (x y : Option α) (f : α → Option β) : (if c then x else y).bind f = if c then x.bind f else y.bind f := by split <;> rfl
theorem guard_pos {α : Type} {c : Prop} [Decidable c] {x : Option α} (h : c) : guard' c x = x := by simp [guard', h]
theorem wrap_pos {x : Int} (h : -9223372036854775808 ≤ x ∧ x ≤ 9223372036854775807) : IntKind.i64.wrap x = x := by
 rw [IntKind.wrap_i64]; omega
theorem tmod_pos {x y : Int} (h : 0 ≤ x) : x.tmod y = x % y := Int.tmod_eq_emod_of_nonneg h
theorem tdiv_pos {x y : Int} (h : 0 ≤ x) : x.tdiv y = x / y := Int.tdiv_eq_ediv_of_nonneg h
theorem mx_r {a b : Nat} (h : a ≤ b) : mx a b = b := by simp [mx, h]
theorem mx_l {a b : Nat} (h : b ≤ a) : mx a b = a := by unfold mx; split <;> omega
theorem mx_zero_l (a : Nat) : mx 0 a = a := by simp [mx]
theorem mx_zero_r (a : Nat) : mx a 0 = a := by unfold mx; split <;> omega
theorem wr_le {a b : Nat} (h : a ≤ b) : a - b = 0 := Nat.sub_eq_zero_of_le h
theorem take_set (m : List Blk) (b : Nat) (x : Blk) : (m.set b x).take m.length = m.set b x := List.take_of_length_le (by simp)
section mem
variable (m l : List Blk) (k : Nat) (b b' : Blk)
theorem get_app : (m ++ l)[m.length + k]? = l[k]? := by rw [List.getElem?_append_right (Nat.le_add_right _ _), Nat.add_sub_cancel_left]
theorem get_app0 : (m ++ l)[m.length]? = l[0]? := by rw [List.getElem?_append_right (Nat.le_refl _), Nat.sub_self]
theorem set_app : (m ++ l).set (m.length + k) b = m ++ l.set k b := by simp
theorem set_app0 : (m ++ l).set m.length b = m ++ l.set 0 b := by simp
theorem take_app : (m ++ l).take (m.length + k) = m ++ l.take k := by rw [List.take_append, Nat.add_sub_cancel_left, List.take_of_length_le (Nat.le_add_right _ _)]
theorem take_app0 : (m ++ l).take m.length = m := by simp
theorem len_add (a c : Nat) : m.length + a + c = m.length + (a + c) := Nat.add_assoc _ _ _
theorem live_app (tot : Nat) : live (m ++ l) (m.length + k) tot = (l[k]?).bind fun blk => if tot = blk.cs.length then some blk else none := by unfold live; rw [get_app]
theorem live_app0 (tot : Nat) : live (m ++ l) m.length tot = (l[0]?).bind fun blk => if tot = blk.cs.length then some blk else none := by unfold live; rw [get_app0]
end mem
section smem
variable (m l : List Blk) (b k : Nat) (x y : Blk)
theorem get_sapp : (m.set b x ++ l)[m.length + k]? = l[k]? := by have := get_app (m.set b x) l k; rwa [List.length_set] at this
theorem get_sapp0 : (m.set b x ++ l)[m.length]? = l[0]? := by have := get_app0 (m.set b x) l; rwa [List.length_set] at this
theorem set_sapp : (m.set b x ++ l).set (m.length + k) y = m.set b x ++ l.set k y := by have := set_app (m.set b x) l k y; rwa [List.length_set] at this
theorem set_sapp0 : (m.set b x ++ l).set m.length y = m.set b x ++ l.set 0 y := by have := set_app0 (m.set b x) l y; rwa [List.length_set] at this
theorem take_sapp : (m.set b x ++ l).take (m.length + k) = m.set b x ++ l.take k := by have := take_app (m.set b x) l k; rwa [List.length_set] at this
theorem take_sapp0 : (m.set b x ++ l).take m.length = m.set b x := by have := take_app0 (m.set b x) l; rwa [List.length_set] at this
theorem live_sapp (tot : Nat) : live (m.set b x ++ l) (m.length + k) tot = (l[k]?).bind fun blk => if tot = blk.cs.length then some blk else none := by have := live_app (m.set b x) l k tot; rwa [List.length_set] at this
theorem live_sapp0 (tot : Nat) : live (m.set b x ++ l) m.length tot = (l[0]?).bind fun blk => if tot = blk.cs.length then some blk else none := by have := live_app0 (m.set b x) l tot; rwa [List.length_set] at this
variable {m b}
theorem get_sb (h : b < m.length) : (m.set b x ++ l)[b]? = some x := by rw [List.getElem?_append_left (by simpa using h), List.getElem?_set_self h]
theorem get_sb0 (h : b < m.length) : (m.set b x)[b]? = some x := List.getElem?_set_self h
theorem set_sb (h : b < m.length) : (m.set b x ++ l).set b y = m.set b y ++ l := by rw [List.set_append_left _ _ (by simpa using h), List.set_set]
theorem live_sb (h : b < m.length) (tot : Nat) : live (m.set b x ++ l) b tot = if tot = x.cs.length then some x else none := by unfold live; rw [get_sb _ _ h]; rfl
theorem live_sb0 (h : b < m.length) (tot : Nat) : live (m.set b x) b tot = if tot = x.cs.length then some x else none := by unfold live; rw [get_sb0 _ h]; rfl
end smem
theorem ints_len (xs : List Int) : (ints xs).length = xs.length := by simp [ints]
theorem ints_get' {xs : List Int} {j : Nat} (h : j < xs.length) : (ints xs)[j]? = some (.int .i64 (xs.getD j 0)) := by
 simp [ints, h, List.getD_eq_getElem?_getD]
theorem ints_refs (xs : List Int) : refsL (ints xs) = 0 := by
 induction xs with
 | nil => rfl
 | cons x xs ih =>
  have : ints (x :: xs) = .int .i64 x :: ints xs := rfl
  rw [this]
  simp [refsL, ih, C.refs, mx]
theorem refs_append (a b : List C) : refsL (a ++ b) = mx (refsL a) (refsL b) := by
 induction a with
 | nil => simp [refsL, mx]
 | cons c a ih => simp only [List.cons_append, refsL, ih]; simp only [mx_eq]; omega
theorem lay_all {cs new : List C} (h : new.length = cs.length) : lay cs 0 new = new := by
 unfold lay
 simp [h]
theorem den_eq {T : FuncId → Option IFn} {X : FuncId → List V → List Blk → Option Ret} {L k : Nat} {f : FuncId} {fn : IFn} (h : T f = some fn) (args : List V) (m : List Blk) : den T X L (k + 1) f args m = runF (den T X L k) L fn args m := by simp [den, h]
end Go.Proofs.YtfbeplbcaanimaaGreat
set_option linter.unusedVariables false
namespace Go.Proofs.YtfbeplbcaanimaaGreat
open Go.RowKit Go.WideShapes
def KL : List (Option IntKind) → List C → Prop
 | [], [] => True
 | none :: ks, .bool _ :: cs => KL ks cs
 | some k :: ks, .int k' n :: cs => k' = k ∧ (Lit.int k n).wf = true ∧ KL ks cs
 | _, _ => False
theorem KL.append : ∀ {k1 k2 : List (Option IntKind)} {c1 c2 : List C}, KL k1 c1 → KL k2 c2 → KL (k1 ++ k2) (c1 ++ c2)
 | [], k2, [], c2, _, h => h
 | none :: ks, k2, .bool _ :: cs, c2, h1, h2 => KL.append (k1 := ks) (c1 := cs) h1 h2
 | some k :: ks, k2, .int k' n :: cs, c2, h1, h2 => ⟨h1.1, h1.2.1, KL.append (k1 := ks) (c1 := cs) h1.2.2 h2⟩
theorem KL.hard : ∀ {ks : List (Option IntKind)} {cs : List C}, KL ks cs → cs.all (·.hard) = true
 | [], [], _ => rfl
 | none :: ks, .bool _ :: cs, h => by simp only [List.all_cons, C.hard, Bool.true_and]; exact KL.hard (ks := ks) h
 | some k :: ks, .int k' n :: cs, h => by simp only [List.all_cons, C.hard, Bool.true_and]; exact KL.hard (ks := ks) h.2.2
section
variable {P : Program} {H : Type} {enc : TypeId × Value → H} {w : World} {base b0 : Nat} {spare : Nat → Bool} {held : Bool}
end
end Go.Proofs.YtfbeplbcaanimaaGreat
