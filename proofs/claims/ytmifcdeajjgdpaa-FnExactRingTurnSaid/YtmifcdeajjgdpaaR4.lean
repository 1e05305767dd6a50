/-
  The law of RingOk, run; and what a ring's argument looks like.
-/
import Derived.Test.YtmifcdeajjgdpaaR3
import Derived.Test.YtmifcdeajjgdpaaRow
set_option linter.unusedVariables false
set_option linter.unusedSimpArgs false
namespace Go.Proofs.Ytmifcdeajjgdpaa
variable {X : FuncId → List V → List Blk → Option Ret} {L : Nat}

def none' : FuncId → List V → List Blk → Option Ret := fun _ _ _ => none
theorem none_ok {P : Program} : CallOk P none' := fun f args m ret h => by cases h

def i64 (n : Int) : Prop := -9223372036854775808 ≤ n ∧ n ≤ 9223372036854775807
theorem wf_i64 {n : Int} (h : (Lit.int .i64 n).wf = true) : i64 n := by
  simp only [Lit.wf, Bool.and_eq_true, decide_eq_true_eq] at h
  exact ⟨h.1, h.2⟩
theorem KL.ints : ∀ {n : Nat} {cs : List C}, KL (List.replicate n (some IntKind.i64)) cs → ∃ xs : List Int, cs = ints xs ∧ xs.length = n ∧ ∀ x, x ∈ xs → i64 x
  | 0, [], _ => ⟨[], rfl, rfl, by simp⟩
  | 0, c :: cs, h => by simp [KL] at h
  | n + 1, [], h => by simp [List.replicate_succ, KL] at h
  | n + 1, c :: cs, h => by
    rw [List.replicate_succ] at h
    cases c with
    | int k' v =>
      obtain ⟨h1, h2, h3⟩ := h
      subst h1
      obtain ⟨xs, rfl, hl, hx⟩ := KL.ints h3
      exact ⟨v :: xs, rfl, by simp [hl], by simp; exact ⟨wf_i64 h2, hx⟩⟩
    | _ => exact False.elim h
theorem ring_of_ints {xs : List Int} (h : xs.length = 10) (hx : ∀ x, x ∈ xs → i64 x) : ∃ f a b, ints xs = ring f a b ∧ i64 a ∧ i64 b ∧ ∀ i, i < 8 → i64 (f i) := by
  refine ⟨fun i => xs.getD i 0, xs.getD 8 0, xs.getD 9 0, ?_, ?_, ?_, ?_⟩
  · obtain ⟨x0, x1, x2, x3, x4, x5, x6, x7, x8, x9, rfl⟩ : ∃ x0 x1 x2 x3 x4 x5 x6 x7 x8 x9, xs = [x0, x1, x2, x3, x4, x5, x6, x7, x8, x9] := by
      match xs, h with
      | [x0, x1, x2, x3, x4, x5, x6, x7, x8, x9], _ => exact ⟨_, _, _, _, _, _, _, _, _, _, rfl⟩
    rfl
  all_goals
    have : ∀ i, i < 10 → i64 (xs.getD i 0) := fun i hi => by
      rw [List.getD_eq_getElem?_getD, List.getElem?_eq_getElem (by omega)]
      exact hx _ (List.getElem_mem _)
  · exact this 8 (by omega)
  · exact this 9 (by omega)
  · exact fun i hi => this i (by omega)

/-- An argument that is a ring. -/
theorem arg_ring {H : Type} {enc : TypeId × Value → H} {w : World} {base b0 : Nat} {spare : Nat → Bool} {held : Bool} {v : Value} {dd : DataW H} {p : List MemPlace}
    (h : DataW.Trod enc Try.prog w base spare held 43 v dd p) (hv : Value.okWide Try.prog w .any b0 43 v) :
    ∃ f a b, i64 a ∧ i64 b ∧ (∀ i, i < 8 → i64 (f i)) ∧ ∀ ι m, VR w ι m (.agg (ring f a b)) v := by
  obtain ⟨l, h1, rfl⟩ := arg_flat (ks := List.replicate 10 (some .i64)) (by kernel_rfl) (by kernel_rfl) hv h
  obtain ⟨xs, rfl, h2, h3⟩ := KL.ints h1
  obtain ⟨f, a, b, h4, h5, h6, h7⟩ := ring_of_ints h2 h3
  refine ⟨f, a, b, h5, h6, h7, fun ι m => ?_⟩
  rw [← h4]
  exact flat_VR h1
/-- An argument that is a number. -/
theorem arg_int {H : Type} {enc : TypeId × Value → H} {w : World} {base b0 : Nat} {spare : Nat → Bool} {held : Bool} {v : Value} {dd : DataW H} {p : List MemPlace}
    (h : DataW.Trod enc Try.prog w base spare held 3 v dd p) (hv : Value.okWide Try.prog w .any b0 3 v) : ∃ n, i64 n ∧ ∀ ι m, VR w ι m (vi n) v := by
  obtain ⟨fuel, hx⟩ := h
  cases fuel with
  | zero => simp [DataW.trod] at hx
  | succ fuel =>
    have hu : Try.prog.underlying 3 = some (.int .i64) := by kernel_rfl
    obtain ⟨n, rfl⟩ := Go.WideShapes.okWide_int hu hv
    obtain ⟨n', h1, _, hw⟩ := DataW.trod_int hu hx
    simp only [Value.cells, List.cons.injEq, Value.int.injEq, true_and, and_true] at h1
    subst h1
    exact ⟨_, wf_i64 hw, fun ι m => .c (.int _ _)⟩

theorem args0 {w : World} {ι : Nat → Nat × Nat} {m : List Blk} : ∀ (j : Nat) (v : V), ([] : List V)[j]? = some v → ∃ r, ([] : List Value)[j]? = some r ∧ VR w ι m v r := fun j v h => by simp at h
theorem argsS {w : World} {ι : Nat → Nat × Nat} {m : List Blk} {x : V} {r : Value} {xs : List V} {rs : List Value} (h : VR w ι m x r) (hs : ∀ (j : Nat) (v : V), xs[j]? = some v → ∃ r, rs[j]? = some r ∧ VR w ι m v r) :
    ∀ (j : Nat) (v : V), (x :: xs)[j]? = some v → ∃ r', (r :: rs)[j]? = some r' ∧ VR w ι m v r'
  | 0, v, hj => by
    simp only [List.getElem?_cons_zero, Option.some.injEq] at hj
    subst hj
    exact ⟨r, rfl, h⟩
  | j + 1, v, hj => by
    rw [List.getElem?_cons_succ] at hj
    obtain ⟨r', h1, h2⟩ := hs j v hj
    exact ⟨r', by rw [List.getElem?_cons_succ]; exact h1, h2⟩

theorem den_FnExactRingOk (hL : 100 ≤ L) (k : Nat) (m : List Blk) (f : Nat → Int) (a b : Int) :
    den T X L (k + 8) 6 [.agg (ring f a b)] m = some ⟨vb true, m, 0, false⟩ := by
  rw [den_eq T_6]
  have e1 := fun m => den_toRing (X := X) hL (k + 5) m f a b
  have e2 := fun m => den_spec_RingOk (X := X) hL (k + 4) m f a b
  have e3 := fun m => den_impl_RingOk (X := X) hL k m f a b
  simp (maxSteps := 1000000) (implicitDefEqProofs := false) (disch := omega) [k_ops, k_opsg, k_nil, k_drw, k_drwg, k_dnil, k_skip, k_reg, k_rdw, k_seq, k_cond, k_block, k_loop, k_exit, k_ret, k_run, c_ops, c_ops0, c_opsn, c_opsi, c_opsg_tt, c_opsg_ff, c_opsg_tf, c_opsg_ft, c_opsg_tf0, c_opsg_ft0, c_opsg_u, c_opsg_u0, c_drw, c_drwn, c_drwg_tt, c_drwg_ff, c_drwg_tf, c_drwg_ft, c_drwg_u, c_qui, c_quin, c_quii, c_cal, c_cal2, c_dal, c_reg, c_regn, c_regi, c_rdw, c_seq, c_seqx, c_seqr, c_seqn, c_seqi, c_cndt, c_cndf, c_cndd, c_cndn, c_opsg_d, c_drwg_d, c_drwi, c_rdwi, c_beq, c_bne, c_blk, c_blkx, c_blky, c_blkr, c_blkn, c_blki, c_runr, c_runn, c_run0, c_runi, c_fin, k_res, k_res0, c_res, c_resd, q_call, q_callv, c_cav, q_mov, q_pick, q_load1, q_loadN, q_fld, q_ixa, q_ixs, q_ext, q_bin, q_binb, q_bins, q_un, q_eqa, q_len, q_lens, q_sla, q_sls, q_bld, q_store, c_sto, c_wri, q_alloc, q_box, c_box, q_mks, q_lit, c_lit, q_app, c_app, c_appn, c_appB, s_len, s_ixs, s_load1, d_mov, d_pick, d_load1, d_loadN, d_fld, d_ixa, d_ixs, d_ext, d_bin, d_binb, d_bins, d_un, d_eqa, d_len, d_lens, d_sls, d_sla, d_bld, d_call, d_callv, c_dav, ite_bind, -getElem?_pos, len_add, number, stepQ, Opd.ev, bin', binI, un', V.bool?, V.int?, V.cells?, C.firm, guard_pos, lt_add_f, ar_len, ar_get, ar_get', ar_lay, ar_lay', ar_past, ar_lay_past, ar_take, ar_all, ar_refs, ar_hard, ar_over, ar_over', refs_append, guard_true, live_app, live_app0, res1, V.one?, resV, fin, V.refs, V.refsAll, C.refs, envRefs, mx_zero_l, mx_zero_r, mx_r, mx_l, take_app, take_app0, get_app, get_app0, set_app, set_app0, refsL, lay_all, layAll, lo', hi', C.hard, V.hard, eqL, eqC, src, rep, List.getElem?_cons_zero, List.getElem?_cons_succ, List.set_cons_zero, List.set_cons_succ, trim_none, trim_some, slots, ar_take_past, ar_drop_past, ar_over2, lay_nil, lay_0, lay_s, take_mx, wrap_pos, tmod_pos, get_hit, get_miss, lenV, ixsV, ld1V, V.own, C.own, nub, pickB, V.ren, C.ren, pos, c_laws_FnExactRingOk, e1, e2, e3]
end Go.Proofs.Ytmifcdeajjgdpaa
