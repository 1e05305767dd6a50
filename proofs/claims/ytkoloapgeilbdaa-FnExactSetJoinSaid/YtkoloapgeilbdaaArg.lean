/-
  Arguments of the laws: numbers, and flat structs of arrays.
-/
import Derived.Test.YtkoloapgeilbdaaLay
import Derived.Test.YtkoloapgeilbdaaRow
import Derived.Test.YtkoloapgeilbdaaTab
import Derived.KernelRfl
set_option linter.unusedVariables false
set_option linter.unusedSimpArgs false
set_option maxRecDepth 100000
namespace Go.Proofs.Ytkoloapgeilbdaa

def none' : FuncId → List V → List Blk → Option Ret := fun _ _ _ => none
theorem none_ok {P : Program} : CallOk P none' := fun f args m ret h => by cases h

def i64 (n : Int) : Prop := -9223372036854775808 ≤ n ∧ n ≤ 9223372036854775807
theorem wf_i64 {n : Int} (h : (Lit.int .i64 n).wf = true) : i64 n := by
  simp only [Lit.wf, Bool.and_eq_true, decide_eq_true_eq] at h
  exact ⟨h.1, h.2⟩
theorem KL.ints : ∀ {n : Nat} {cs : List C}, KL (List.replicate n (some IntKind.i64)) cs → ∃ xs : List Int, cs = ints xs ∧ xs.length = n ∧ ∀ x, x ∈ xs → i64 x
  | 0, [], _ => ⟨[], rfl, rfl, by simp⟩
  | 0, c :: cs, h => by simp [KL] at h
  | n + 1, [], h => by simp [List.replicate_succ, KL] at h
  | n + 1, c :: cs, h => by
    rw [List.replicate_succ] at h
    cases c with
    | int k' v =>
      obtain ⟨h1, h2, h3⟩ := h
      subst h1
      obtain ⟨xs, rfl, hl, hx⟩ := KL.ints h3
      exact ⟨v :: xs, rfl, by simp [hl], by simp; exact ⟨wf_i64 h2, hx⟩⟩
    | _ => exact False.elim h
theorem rows_front {α : Type} {e : α → List C} {s : Nat} (he : ∀ a, (e a).length = s) (n : Nat) (f : Nat → α) : rows e (n + 1) f = e (f 0) ++ rows e n fun i => f (i + 1) := by
  rw [rows_split he f (Nat.succ_pos n)]
  simp [rows, Nat.add_comm]
abbrev ndK : List (Option IntKind) := [none, some .i64, some .i64, some .i64]
theorem KL.nds {ks : List (Option IntKind)} : ∀ {n : Nat} {cs : List C}, KL ((List.replicate n ndK).flatten ++ ks) cs → ∃ (f : Nat → Nd) (r : List C), cs = nds n f ++ r ∧ KL ks r ∧ ∀ i, i < n → i64 (f i).a ∧ i64 (f i).b ∧ i64 (f i).c
  | 0, cs, h => ⟨fun _ => ⟨false, 0, 0, 0⟩, cs, by simp [Go.Proofs.Ytkoloapgeilbdaa.nds, rows], by simpa using h, by simp⟩
  | n + 1, cs, h => by
    rw [List.replicate_succ, List.flatten_cons, List.append_assoc] at h
    match cs, h with
    | .bool u :: .int k1 a :: .int k2 b :: .int k3 c :: cs, h =>
      obtain ⟨e1, w1, e2, w2, e3, w3, h⟩ := h
      subst e1; subst e2; subst e3
      obtain ⟨f, r, rfl, h2, h3⟩ := KL.nds (n := n) h
      refine ⟨fun i => if i = 0 then ⟨u, a, b, c⟩ else f (i - 1), r, ?_, h2, fun i hi => ?_⟩
      · show _ = rows nd (n + 1) _ ++ r
        rw [rows_front (s := 4) (fun _ => rfl)]
        rfl
      · cases i with
        | zero => exact ⟨wf_i64 w1, wf_i64 w2, wf_i64 w3⟩
        | succ i => simpa using h3 i (by omega)
/-- An argument that is an array of 16 records and a number. -/
theorem arg_nds {H : Type} {enc : TypeId × Value → H} {w : World} {base b0 : Nat} {spare : Nat → Bool} {held : Bool} {v : Value} {dd : DataW H} {p : List MemPlace} {t : TypeId}
    (hf : flatT Try.prog 20 t = some ((List.replicate 16 ndK).flatten ++ [some .i64])) (hg : aggT Try.prog t = some true)
    (h : DataW.Trod enc Try.prog w base spare held t v dd p) (hv : Value.okWide Try.prog w .any b0 t v) :
    ∃ (f : Nat → Nd) (a : Int), i64 a ∧ (∀ i, i < 16 → i64 (f i).a ∧ i64 (f i).b ∧ i64 (f i).c) ∧ ∀ ι m, VR w ι m (.agg (nds 16 f ++ [ci a])) v := by
  obtain ⟨l, h1, rfl⟩ := arg_flat hf hg hv h
  obtain ⟨f, r, rfl, h2, h3⟩ := KL.nds h1
  match r, h2 with
  | [.int k a], h2 =>
    obtain ⟨e1, w1, _⟩ := h2
    subst e1
    exact ⟨f, a, wf_i64 w1, h3, fun ι m => flat_VR h1⟩
/-- An argument that is a number. -/
theorem arg_int {H : Type} {enc : TypeId × Value → H} {w : World} {base b0 : Nat} {spare : Nat → Bool} {held : Bool} {v : Value} {dd : DataW H} {p : List MemPlace}
    (h : DataW.Trod enc Try.prog w base spare held 3 v dd p) (hv : Value.okWide Try.prog w .any b0 3 v) : ∃ n, i64 n ∧ ∀ ι m, VR w ι m (vi n) v := by
  obtain ⟨fuel, hx⟩ := h
  cases fuel with
  | zero => simp [DataW.trod] at hx
  | succ fuel =>
    have hu : Try.prog.underlying 3 = some (.int .i64) := by kernel_rfl
    obtain ⟨n, rfl⟩ := Go.WideShapes.okWide_int hu hv
    obtain ⟨n', h1, _, hw⟩ := DataW.trod_int hu hx
    simp only [Value.cells, List.cons.injEq, Value.int.injEq, true_and, and_true] at h1
    subst h1
    exact ⟨_, wf_i64 hw, fun ι m => .c (.int _ _)⟩

theorem args0 {w : World} {ι : Nat → Nat × Nat} {m : List Blk} : ∀ (j : Nat) (v : V), ([] : List V)[j]? = some v → ∃ r, ([] : List Value)[j]? = some r ∧ VR w ι m v r := fun j v h => by simp at h
theorem argsS {w : World} {ι : Nat → Nat × Nat} {m : List Blk} {x : V} {r : Value} {xs : List V} {rs : List Value} (h : VR w ι m x r) (hs : ∀ (j : Nat) (v : V), xs[j]? = some v → ∃ r, rs[j]? = some r ∧ VR w ι m v r) :
    ∀ (j : Nat) (v : V), (x :: xs)[j]? = some v → ∃ r', (r :: rs)[j]? = some r' ∧ VR w ι m v r'
  | 0, v, hj => by
    simp only [List.getElem?_cons_zero, Option.some.injEq] at hj
    subst hj
    exact ⟨r, rfl, h⟩
  | j + 1, v, hj => by
    rw [List.getElem?_cons_succ] at hj
    obtain ⟨r', h1, h2⟩ := hs j v hj
    exact ⟨r', by rw [List.getElem?_cons_succ]; exact h1, h2⟩

end Go.Proofs.Ytkoloapgeilbdaa
