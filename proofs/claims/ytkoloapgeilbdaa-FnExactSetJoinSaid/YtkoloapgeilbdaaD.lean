/-
  The abstract machine is sound: functions, and calls to a depth.
-/
import Derived.Test.YtkoloapgeilbdaaH
set_option linter.unusedVariables false
set_option linter.unusedSimpArgs false
namespace Go.Proofs.Ytkoloapgeilbdaa
open Go.RowKit

section
variable {P : Program} {base nt : Nat} {w0 w w' : World} {ι0 ι ι' : Nat → Nat × Nat} {m0 m m' : List Blk} {a : Act} {o : Oper} {st : St} {e : Nat} {wr : Nat}
  {call : FuncId → List V → List Blk → Option Ret} {env : List (Nat × V)}

theorem get_number : ∀ (args : List V) (i t : Nat), get (number i args) t = if i ≤ t then (args[t - i]?).getD (.c .junk) else .c .junk
  | [], i, t => by simp [number, get]
  | v :: r, i, t => by
    simp only [number, get]
    by_cases h : i = t
    · subst h; simp
    · rw [if_neg h, get_number r (i + 1) t]
      by_cases h1 : i ≤ t
      · rw [if_pos (by omega), if_pos h1, show t - i = (t - (i + 1)) + 1 by omega, List.getElem?_cons_succ]
      · rw [if_neg (by omega), if_neg h1]

theorem one?_WR {v u : V} {r : Value} (h : v.one? = some u) (hv : VR w ι m v r) : u = v ∧ WR w ι m v r := by
  cases v with
  | tup vs => cases h
  | c x =>
    injection h with h
    refine ⟨h.symm, ?_⟩
    cases hv with | one hv => exact hv
  | agg cs =>
    injection h with h
    refine ⟨h.symm, ?_⟩
    cases hv with | one hv => exact hv

/-- One result. -/
def resOf (fn : ResultVar) (tmps : Array Value) : Sem Value :=
  match fn with
  | .tmp t => pure (tmps.getD t undef)
  | .cell a t => do loadVar t (← asAddr (tmps.getD a undef))

theorem res1_sound (h : SR P base nt w0 ι0 m0 w ι st a) {rv : ResultVar} {ir : IR} (ht : trR P [rv] = some [ir]) {v : V} (hs : res1 st ir = some v) : ∃ r, WR w ι st.mem v r ∧ (resOf rv a.tmps).run P w = .ok r w := by
  cases rv with
  | tmp t =>
    simp only [trR, Option.map_some, Option.some.injEq, List.cons.injEq, and_true] at ht
    subst ht
    obtain ⟨rfl, h1⟩ := one?_WR hs (h.env t)
    exact ⟨_, h1, by simp [resOf]⟩
  | cell x t =>
    simp only [trR, Option.bind_eq_some_iff, Option.map_some, Option.some.injEq, List.cons.injEq, and_true] at ht
    obtain ⟨ag, hag, n, hn, rfl⟩ := ht
    have hx := h.env x
    cases ag with
    | true =>
      simp only [res1, if_true, stepQ, guard', Opd.ev] at hs
      split at hs
      · rename_i b off tot hp
        rw [hp] at hx
        simp only [Option.bind_eq_some_iff] at hs
        obtain ⟨blk, hl, hs⟩ := hs
        split at hs
        · rename_i hle
          injection hs with hs; subst hs
          obtain ⟨rs, h1, h2⟩ := run_load_agg (P := P) h.mem.sim hag hn (live_some hl).1 (hx.pal (live_some hl).1) off hle
          exact ⟨.agg rs.toArray, .agg (by simpa using h1), by simp only [resOf, hx.ptr hl]; simp [asAddr, h2 w (Below.refl _ _)]⟩
        · cases hs
      · cases hs
    | false =>
      simp only [res1, Bool.false_eq_true, if_false, stepQ, guard', Opd.ev] at hs
      split at hs
      · rename_i b off tot hp
        rw [hp] at hx
        simp only [Option.bind_eq_some_iff] at hs
        obtain ⟨blk, hl, c, hc, hs⟩ := hs
        injection hs with hs; subst hs
        obtain ⟨r, h1, _, h2⟩ := run_load_one (P := P) h.mem.sim hag (live_some hl).1 (hx.pal (live_some hl).1) hc
        exact ⟨r, .c h1, by simp only [resOf, hx.ptr hl]; simp [asAddr, h2 w (Below.refl _ _)]⟩
      · cases hs

theorem trR_cons {rv : ResultVar} {l : List ResultVar} {irs : List IR} (h : trR P (rv :: l) = some irs) : ∃ ir irs', irs = ir :: irs' ∧ trR P [rv] = some [ir] ∧ trR P l = some irs' := by
  cases rv with
  | tmp t =>
    simp only [trR, Option.map_eq_some_iff] at h
    obtain ⟨l', h1, rfl⟩ := h
    exact ⟨_, _, rfl, rfl, h1⟩
  | cell x t =>
    simp only [trR, Option.bind_eq_some_iff, Option.map_eq_some_iff] at h
    obtain ⟨ag, hag, n, hn, l', h1, rfl⟩ := h
    exact ⟨_, _, rfl, by simp [trR, hag, hn], h1⟩

theorem resAll_sound (h : SR P base nt w0 ι0 m0 w ι st a) : ∀ (l : List ResultVar) (irs : List IR) (vs : List V), trR P l = some irs → resAll st irs = some vs →
    ∃ rs : List Value, rs.length = vs.length ∧ (∀ (j : Nat) (v : V), vs[j]? = some v → ∃ r, rs[j]? = some r ∧ WR w ι st.mem v r) ∧ (l.mapM (fun rv => resOf rv a.tmps)).run P w = .ok rs w
  | [], irs, vs, ht, hs => by
    simp only [trR, Option.some.injEq] at ht
    subst ht
    simp only [resAll, Option.some.injEq] at hs
    subst hs
    exact ⟨[], rfl, by simp, by simp⟩
  | rv :: l, irs, vs, ht, hs => by
    obtain ⟨ir, irs', rfl, h1, h2⟩ := trR_cons ht
    simp only [resAll, Option.bind_eq_some_iff, Option.some.injEq] at hs
    obtain ⟨v, hv, vs', hvs, rfl⟩ := hs
    obtain ⟨r, k1, k2⟩ := res1_sound h h1 hv
    obtain ⟨rs, g1, g2, g3⟩ := resAll_sound h l irs' vs' h2 hvs
    refine ⟨r :: rs, by simp [g1], fun j u hj => ?_, ?_⟩
    · cases j with
      | zero => simp at hj; subst hj; exact ⟨r, rfl, k1⟩
      | succ j => simpa using g2 j u (by simpa using hj)
    · simp only [List.mapM_cons, Sem.run_bind, k2, Result.andThen_ok, g3, Sem.run_pure]

theorem results_sound (h : SR P base nt w0 ι0 m0 w ι st a) {fn : Func} {irs : List IR} {vs : List V} (ht : trR P fn.results.toList = some irs) (hs : resAll st irs = some vs) :
    ∃ r, VR w ι st.mem (resV vs) r ∧ (results fn a.tmps).run P w = .ok r w := by
  obtain ⟨rs, h1, h2, h3⟩ := resAll_sound h _ _ _ ht hs
  have hmap : (fn.results.mapM (fun rv => resOf rv a.tmps)).run P w = .ok rs.toArray w := by
    have : fn.results.mapM (fun rv => resOf rv a.tmps) = List.toArray <$> fn.results.toList.mapM (fun rv => resOf rv a.tmps) := by
      rw [← List.mapM_toArray]
    rw [this, Sem.run_map, h3, Result.andThen_ok]
  have hres : (results fn a.tmps).run P w = .ok (if h : rs.toArray.size = 1 then rs.toArray[0] else .tuple rs.toArray) w := by
    have : results fn a.tmps = (do let vs ← fn.results.mapM (fun rv => resOf rv a.tmps); pure (if h : vs.size = 1 then vs[0] else .tuple vs)) := by
      unfold results
      congr 1
    rw [this, Sem.run_bind, hmap]
    rfl
  clear hs h3 hmap
  match vs, rs, h1, h2, hres with
  | [v], [r], _, h2, hres =>
    obtain ⟨r', g1, g2⟩ := h2 0 v rfl
    injection g1 with g1
    subst g1
    exact ⟨r, .one g2, by rw [hres]; simp⟩
  | [], [], _, h2, hres => exact ⟨.tuple #[], .tup (by simp) (by simp), by rw [hres]; simp⟩
  | v1 :: v2 :: vs, r1 :: r2 :: rs, h1, h2, hres =>
    refine ⟨.tuple (r1 :: r2 :: rs).toArray, .tup (by simpa using h1.symm) (fun j v hj => by simpa using h2 j v hj), by rw [hres]; simp⟩

theorem runF_sound (hC : CallOk P call) (L : Nat) {f : FuncId} {fn : Func} {ifn : IFn} {keep : Keep} (hf : P.funcs[f]? = some fn) (ht : trF P keep fn = some ifn) {args : List V} {m : List Blk} {ret : Ret} (hr : runF call L ifn args m = some ret)
    {ras : List Value} (s : Sim base w ι m) (hl : args.length = ras.length) (ha : ∀ (j : Nat) (v : V), args[j]? = some v → ∃ r, ras[j]? = some r ∧ VR w ι m v r) : Calls P f ras.toArray w (RetOk base w ι m ret) := by
  simp only [trF, Option.bind_eq_some_iff, Option.map_eq_some_iff] at ht
  obtain ⟨c, hc, ib, hib, rs, hrs, rfl⟩ := ht
  simp only [runF] at hr
  split at hr
  · rename_i hnt
    simp only [Option.bind_eq_some_iff] at hr
    obtain ⟨p, hp, hr⟩ := hr
    have hstart : SR P base fn.ntmps w ι m w ι ⟨number 0 args, m, 0, 0⟩ { tmps := ras.toArray ++ Array.replicate (fn.ntmps - ras.toArray.size) undef, defers := [] } := by
      refine ⟨MR.start s, fun t => ?_, rfl, by simp; omega⟩
      show VR w ι m (get (number 0 args) t) _
      rw [get_number]
      simp only [Nat.zero_le, if_true, Nat.sub_zero]
      cases hv : args[t]? with
      | none => exact .c (.junk _)
      | some v =>
        obtain ⟨r, h1, h2⟩ := ha t v hv
        have hlt : t < ras.length := (List.getElem?_eq_some_iff.1 h1).1
        have : (ras.toArray ++ Array.replicate (fn.ntmps - ras.toArray.size) undef).getD t undef = r := by
          rw [Array.getD_eq_getD_getElem?, Array.getElem?_append_left (by simpa using hlt)]
          simp [h1]
        rw [this]
        exact h2
    have hwp := exec_sound hC L keep c ib hib none w ι _ _ p hstart hp
    refine calls_of_wp hf hc (wp_mono hwp fun ex a' w' hq => ?_)
    obtain ⟨he, ι', h'⟩ := hq
    have fine : (∀ id, p.1 ≠ .exit id) → ((resAll p.2 rs).bind fun vs => some (fin m.length (resV vs) p.2)) = some ret → bodyPost P fn (RetOk base w ι m ret) ex a' w' := by
      intro hne hr
      simp only [Option.bind_eq_some_iff, Option.some.injEq] at hr
      obtain ⟨vs, hvs, rfl⟩ := hr
      obtain ⟨r, h1, h2⟩ := results_sound h' hrs hvs
      have h3 := fin_sound s h'.mem h1
      cases hp1 : p.1 with
      | norm => rw [hp1] at he; subst he; exact ⟨h'.defers, r, h2, h3⟩
      | ret => rw [hp1] at he; subst he; exact ⟨h'.defers, r, h2, h3⟩
      | exit id => exact absurd hp1 (hne id)
    cases hp1 : p.1 with
    | norm => rw [hp1] at hr; exact fine (by simp [hp1]) hr
    | ret => rw [hp1] at hr; exact fine (by simp [hp1]) hr
    | exit id => rw [hp1] at hr; cases hr
  · cases hr

/-- A table of translated functions. -/
def TabOk (P : Program) (T : FuncId → Option IFn) : Prop :=
  ∀ (f : FuncId) (ifn : IFn), T f = some ifn → ∃ fn keep, P.funcs[f]? = some fn ∧ trF P keep fn = some ifn ∧ fn.name ≠ "runtime.NumGoroutine"

theorem den_sound {T : FuncId → Option IFn} {X : FuncId → List V → List Blk → Option Ret} (hT : TabOk P T) (hX : CallOk P X) (L : Nat) : ∀ k, CallOk P (den T X L k)
  | 0 => hX
  | k + 1 => by
    intro f args m ret hr
    simp only [den] at hr
    split at hr
    · rename_i ifn hf
      obtain ⟨fn, keep, h1, h2, h3⟩ := hT f ifn hf
      refine ⟨⟨fn, h1, fun hb => ?_, h3⟩, fun base w ι ras s hl ha => runF_sound (den_sound hT hX L k) L h1 h2 hr s hl ha⟩
      simp [trF, hb] at h2
    · exact hX f args m ret hr

/-- Nothing is known from outside. -/
theorem callOk_none : CallOk P (fun _ _ _ => none) := fun f args m ret h => by cases h

/-- A run on no memory at all: for functions of plain values. -/
theorem sim_nil (w : World) : Sim w.heap.size w (fun _ => (0, 0)) [] := ⟨Nat.le_refl _, by simp, by simp, by simp, by simp⟩
end
end Go.Proofs.Ytkoloapgeilbdaa
