/-
  The program's SetJoin returns what the reference's returns, for all arguments.
-/
import Derived.Test.YtkoloapgeilbdaaRows
import Derived.Test.YtkoloapgeilbdaaSK
import Derived.Test.YtkoloapgeilbdaaLib
import Derived.Test.YtkoloapgeilbdaaArgSS
import Derived.Test.YtkoloapgeilbdaaArg
import Derived.Test.YtkoloapgeilbdaaRow
import Derived.Test.YtkoloapgeilbdaaRow2
import Derived.Test.YtkoloapgeilbdaaTab
import Derived.ProofKit
import Derived.OpenShut
set_option linter.unusedVariables false
set_option linter.unusedSimpArgs false
set_option maxRecDepth 100000
namespace Go.Proofs.Ytkoloapgeilbdaa.fnExactSetJoin
open Go.ChangeShapes Go.WideShapes Go.ChangeAt Go.RowKit

theorem walk {H : Type} {enc : TypeId × Value → H} {base : Nat} (w : World) {v0 : Value} {d0 : DataW H} {p0 : List MemPlace} (h0 : DataW.Trod enc Try.prog w 0 (fun _ => true) true 22 v0 d0 p0) (k0 : Value.okWide Try.prog w .any base 22 v0)
    {v1 : Value} {d1 : DataW H} {p1 : List MemPlace} (h1 : DataW.Trod enc Try.prog w 0 (fun _ => true) true 22 v1 d1 p1) (k1 : Value.okWide Try.prog w .any base 22 v1) :
    Calls Try.prog 14 #[v0, v1] w fun e w' => e = .returned (.bool true) ∧ Below w.heap.size w w' := by
  obtain ⟨xss, c, m, ι, hs, hb, hbs, ho, hm, hv⟩ := arg_ss (s := 30) (by kernel_rfl) (by kernel_rfl) (by kernel_rfl) h0 k0
  obtain ⟨yss, d, l, ι', hs', hb', hbs', ho', hm', hv', he⟩ := arg_ssAt (s := 30) hm ho (by kernel_rfl) (by kernel_rfl) (by kernel_rfl) h1 k1
  exact calls_of_den0 (ras := [v0, v1]) (den_sound tabOk libX_ok 4000000 40) (den_FnExactSetJoin (by omega) 33 (m ++ l) c d xss yss hs.grow hs' hb hbs hb' hbs') ho' hm' rfl (argsS (hv.evo he) (argsS hv' args0))


theorem own : ownKnob Try.prog.godebug = none := by kernel_rfl
theorem laid : laidOutB Try.prog = true := by kernel_rfl
set_option maxRecDepth 100000 in
theorem lifted (os : Os) (started : os.Started) (H : Type) (enc : TypeId × Value → H) :
    ReturnsInHanded {} Try.checked os 14 .any (Rows.fnExactSetJoinSpec.pre6 enc Try.prog Try.f14 Rows.fnExactSetJoinRow.domain false) (Rows.fnExactSetJoinSpec.post enc Try.prog Try.f14 false true false false) := by
  refine returnsInHanded_of_change (C := Try.checked) own started (by kernel_rfl) Try.func14
    (ChangeSpec.witness6 (enc := enc) (C := Try.checked) false ⟨#[], #[.slice none 0 0, .slice none 0 0], []⟩ 8 (by kernel_rfl) (by kernel_rfl) (by kernel_rfl) (by kernel_rfl)) ?_
  intro W base args ds gs before hval0 hW hcnd hsz
  have hval : ∀ (j : Nat) t v, Try.f14.params[j]? = some t → args[j]? = some v → Value.okWide Try.prog W .any base t v := hval0
  have hW' := hW
  obtain ⟨p, q, hA0, hV, rfl, hfz, hnd⟩ := hW
  have hA : DataW.TrodAll enc Try.prog W 0 (fun _ => true) true Try.f14.params.toList args.toList ds p := hA0
  rw [Try.params14] at hA hval
  obtain ⟨v0, vs0, d0, ds0, p0, q0, hargs, rfl, rfl, h0, r0⟩ := trodAll_cons hA
  obtain ⟨v1, vs1, d1, ds1, p1, q1, rfl, rfl, rfl, h1, r1⟩ := trodAll_cons r0
  obtain ⟨rfl, rfl, rfl⟩ := trodAll_nil r1
  obtain rfl : args = #[v0, v1] := by cases args; simp_all
  obtain ⟨rfl, rfl⟩ := trodVars_none hV
  clear hA0
  have hlt : ∀ x ∈ p0 ++ (p1 ++ []), x.block < W.heap.size := fun x hx => by have := hW'.lt x; simp at this hx; exact this hx
  refine (walk W h0 (hval 0 22 v0 rfl rfl) h1 (hval 1 22 v1 rfl rfl)).mono fun e W' ⟨he, hg⟩ => ?_
  subst he
  refine ⟨_, rfl, _, _, _, [], p0 ++ (p1 ++ []), [], hW', trodAll_cons_mk (shut_bool Try.underlying4 _) trodAll_mk0, (trodAll_cons_mk (Below.trod laid (by kernel_rfl) (of_decide_eq_true (by kernel_rfl)) h0 hg (fun x hx => hlt x (by simp [hx]))) (trodAll_cons_mk (Below.trod laid (by kernel_rfl) (of_decide_eq_true (by kernel_rfl)) h1 hg (fun x hx => hlt x (by simp [hx]))) trodAll_mk0)), rfl, hg.frame _, fun h => by cases h⟩

theorem over : Rows.fnExactSetJoinRow.holds Try.pinned (OpenSpec.ofChange Rows.fnExactSetJoinSpec) :=
  OpenClaim.holds_of_wide 14 Try.f14 rfl rfl rfl rfl rfl rfl rfl ⟨rfl, rfl, rfl, rfl, rfl⟩ rfl rfl rfl rfl rfl (by kernel_rfl) Try.func14 (by kernel_rfl)
    (of_decide_eq_true (by kernel_rfl)) (by unfold Func.isWrapper; first | (rw [if_pos (by decide +kernel)]; kernel_rfl) | (rw [if_neg (by decide +kernel)]; exact ⟨rfl, rfl⟩))
    (fun os started H enc _ => lifted os started H enc)

theorem proved : Rows.FnExactSetJoinSaid := over
end Go.Proofs.Ytkoloapgeilbdaa.fnExactSetJoin
