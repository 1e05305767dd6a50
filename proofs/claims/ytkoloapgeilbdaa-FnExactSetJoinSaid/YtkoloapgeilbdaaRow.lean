/-
  From a run of the abstract machine to a statement's call: what a law's row asks.
-/
import Derived.Test.YtkoloapgeilbdaaEv
import Derived.ProofKit
import Derived.OpenShut
set_option linter.unusedVariables false
namespace Go.Proofs.Ytkoloapgeilbdaa
open Go.RowKit Go.WideShapes

/-- A run that answers one bool and leaves the memory alone. -/
theorem calls_of_den {P : Program} {call : FuncId → List V → List Blk → Option Ret} (hC : CallOk P call) {f : FuncId} {args : List V} {m : List Blk} {b : Bool} {base : Nat} {w : World} {ι : Nat → Nat × Nat} {ras : List Value}
    (h : call f args m = some ⟨.c (.bool b), m, 0, 0⟩) (s : Sim base w ι m) (hl : args.length = ras.length) (ha : ∀ (j : Nat) (v : V), args[j]? = some v → ∃ r, ras[j]? = some r ∧ VR w ι m v r) :
    Calls P f ras.toArray w fun e w' => e = .returned (.bool b) ∧ Below w.heap.size w w' := by
  refine ((hC f args m _ h).2 base w ι ras s hl ha).mono fun e w' ⟨r, ι', he, hv, hm⟩ => ?_
  rw [he, hv.bool]
  exact ⟨rfl, hm.below.1⟩

/-- Cells of these kinds. -/
def KL : List (Option IntKind) → List C → Prop
  | [], [] => True
  | none :: ks, .bool _ :: cs => KL ks cs
  | some k :: ks, .int k' n :: cs => k' = k ∧ (Lit.int k n).wf = true ∧ KL ks cs
  | _, _ => False
theorem KL.append : ∀ {k1 k2 : List (Option IntKind)} {c1 c2 : List C}, KL k1 c1 → KL k2 c2 → KL (k1 ++ k2) (c1 ++ c2)
  | [], k2, [], c2, _, h => h
  | none :: ks, k2, .bool _ :: cs, c2, h1, h2 => KL.append (k1 := ks) (c1 := cs) h1 h2
  | some k :: ks, k2, .int k' n :: cs, c2, h1, h2 => ⟨h1.1, h1.2.1, KL.append (k1 := ks) (c1 := cs) h1.2.2 h2⟩
theorem KL.hard : ∀ {ks : List (Option IntKind)} {cs : List C}, KL ks cs → cs.all (·.hard) = true
  | [], [], _ => rfl
  | none :: ks, .bool _ :: cs, h => by simp only [List.all_cons, C.hard, Bool.true_and]; exact KL.hard (ks := ks) h
  | some k :: ks, .int k' n :: cs, h => by simp only [List.all_cons, C.hard, Bool.true_and]; exact KL.hard (ks := ks) h.2.2

section
variable {P : Program} {H : Type} {enc : TypeId × Value → H} {w : World} {base b0 : Nat} {spare : Nat → Bool} {held : Bool}

/-- A flat type's reading: the cells are of its kinds. -/
theorem trod_flat : ∀ (d : Nat) (t : TypeId) (ks : List (Option IntKind)), flatT P d t = some ks → ∀ (fuel : Nat) (cs : List Value) (x : DataW H × List MemPlace), DataW.trod enc P w base spare held fuel t cs = some x → ∃ l : List C, KL ks l ∧ cs = l.map (·.real)
  | 0, _, _, h => by cases h
  | d + 1, t, ks, hf => by
    intro fuel cs x h
    cases fuel with
    | zero => simp [DataW.trod] at h
    | succ fuel =>
      unfold flatT at hf
      split at hf
      · rename_i hu
        split at hf
        · injection hf with hf; subst hf
          obtain ⟨b, rfl, _⟩ := DataW.trod_bool hu h
          exact ⟨[.bool b], trivial, rfl⟩
        · cases hf
      · rename_i k hu
        split at hf
        · injection hf with hf; subst hf
          obtain ⟨n, rfl, _, hw⟩ := DataW.trod_int hu h
          exact ⟨[.int k n], ⟨rfl, hw, trivial⟩, rfl⟩
        · cases hf
      · rename_i fields hu
        split at hf
        · cases hf
        · simp only [Option.bind_eq_some_iff] at hf
          obtain ⟨ks', hfs, hf⟩ := hf
          split at hf
          · rename_i hsz
            injection hf with hf; subst hf
            simp only [DataW.trod, hu] at h
            split at h
            · rename_i hlen
              simp only [Option.map_eq_some_iff] at h
              obtain ⟨xs, hxs, _⟩ := h
              have hcell : P.cellsOf t = ks'.length := by
                unfold szT at hsz
                unfold Program.cellsOf
                rw [hsz]; rfl
              have go : ∀ (fs : List Field) (off : Nat) (ks : List (Option IntKind)) (xs : List (DataW H × List MemPlace)), flatFs P (flatT P d) fs off = some ks → fs.mapM (fun f => DataW.trod enc P w base spare held fuel f.type ((cs.drop f.offset).take (P.cellsOf f.type))) = some xs → off + ks.length = cs.length → ∃ l : List C, KL ks l ∧ cs.drop off = l.map (·.real) := by
                intro fs
                induction fs with
                | nil =>
                  intro off ks xs h1 h2 h3
                  simp only [flatFs, Option.some.injEq] at h1
                  subst h1
                  exact ⟨[], trivial, by simp at h3; simp [h3]⟩
                | cons f fs ih =>
                  intro off ks xs h1 h2 h3
                  simp only [flatFs] at h1
                  split at h1
                  · rename_i hn
                    simp only [Option.bind_eq_some_iff] at h1
                    obtain ⟨k1, hk1, h1⟩ := h1
                    split at h1
                    · rename_i hs1
                      simp only [Option.bind_eq_some_iff, Option.some.injEq] at h1
                      obtain ⟨k2, hk2, rfl⟩ := h1
                      rw [List.mapM_cons] at h2
                      simp only [bind, Option.bind_eq_some_iff, pure, Option.some.injEq] at h2
                      obtain ⟨y, hy, ys, hys, rfl⟩ := h2
                      obtain ⟨l1, g1, g2⟩ := trod_flat d f.type k1 hk1 fuel _ y hy
                      obtain ⟨l2, q1, q2⟩ := ih (off + k1.length) k2 ys hk2 hys (by simp at h3; omega)
                      have hc1 : P.cellsOf f.type = k1.length := by
                        unfold szT at hs1
                        unfold Program.cellsOf
                        rw [hs1]; rfl
                      refine ⟨l1 ++ l2, g1.append q1, ?_⟩
                      rw [hn.2, hc1] at g2
                      rw [List.map_append, ← g2, ← q2, ← List.drop_drop, List.take_append_drop]
                    · cases h1
                  · cases h1
              obtain ⟨l, l1, l2⟩ := go fields.toList 0 ks' xs hfs hxs (by omega)
              exact ⟨l, l1, by simpa using l2⟩
            · cases h
          · cases hf
      · rename_i len elem hu
        simp only [Option.bind_eq_some_iff] at hf
        obtain ⟨k1, hk1, hf⟩ := hf
        split at hf
        · rename_i hsz
          injection hf with hf; subst hf
          simp only [DataW.trod, hu] at h
          split at h
          · rename_i hlen
            simp only [Option.map_eq_some_iff] at h
            obtain ⟨xs, hxs, _⟩ := h
            have hcell : P.cellsOf t = len * k1.length := by
              have := hsz.2
              unfold szT at this
              unfold Program.cellsOf
              rw [this]; rfl
            have hc1 : P.cellsOf elem = k1.length := by
              have := hsz.1
              unfold szT at this
              unfold Program.cellsOf
              rw [this]; rfl
            have go : ∀ (n j : Nat) (xs : List (DataW H × List MemPlace)), (List.range' j n).mapM (fun i => DataW.trod enc P w base spare held fuel elem ((cs.drop (i * P.cellsOf elem)).take (P.cellsOf elem))) = some xs → (j + n) * k1.length = cs.length → ∃ l : List C, KL (List.replicate n k1).flatten l ∧ cs.drop (j * k1.length) = l.map (·.real) := by
              intro n
              induction n with
              | zero =>
                intro j xs h2 h3
                exact ⟨[], trivial, by simp at h3; simp [h3]⟩
              | succ n ih =>
                intro j xs h2 h3
                rw [List.range'_succ, List.mapM_cons] at h2
                simp only [bind, Option.bind_eq_some_iff, pure, Option.some.injEq] at h2
                obtain ⟨y, hy, ys, hys, rfl⟩ := h2
                obtain ⟨l1, g1, g2⟩ := trod_flat d elem k1 hk1 fuel _ y hy
                obtain ⟨l2, q1, q2⟩ := ih (j + 1) ys hys (by rw [← h3]; congr 1; omega)
                refine ⟨l1 ++ l2, by rw [List.replicate_succ, List.flatten_cons]; exact g1.append q1, ?_⟩
                rw [hc1] at g2
                rw [List.map_append, ← g2, ← q2, Nat.succ_mul, ← List.drop_drop, List.take_append_drop]
            obtain ⟨l, l1, l2⟩ := go len 0 xs (by rw [← List.range_eq_range']; exact hxs) (by rw [Nat.zero_add]; omega)
            exact ⟨l, l1, by simpa using l2⟩
          · cases h
        · cases hf
      · cases hf

/-- An argument that is a flat struct or array. -/
theorem arg_flat {t : TypeId} {v : Value} {dd : DataW H} {p : List MemPlace} {ks : List (Option IntKind)} (hf : flatT P 20 t = some ks) (ha : aggT P t = some true) (hv : Value.okWide P w .any b0 t v) (h : DataW.Trod enc P w base spare held t v dd p) :
    ∃ l : List C, KL ks l ∧ v = .agg (l.map (·.real)).toArray := by
  obtain ⟨fuel, hx⟩ := h
  obtain ⟨l, h1, h2⟩ := trod_flat 20 t ks hf fuel _ _ hx
  have hagg : ∃ cs, v = .agg cs := by
    unfold aggT at ha
    cases hu : P.underlying t with
    | none => rw [hu] at ha; cases ha
    | some d =>
      rw [hu] at ha
      simp only [Value.okWide, hu] at hv
      cases d <;> simp at ha <;> (obtain ⟨cs, hcs, _⟩ := hv; exact ⟨cs, hcs⟩)
  obtain ⟨cs, rfl⟩ := hagg
  refine ⟨l, h1, ?_⟩
  simp only [Value.cells] at h2
  congr 1
  apply Array.ext'
  simpa using h2
theorem flat_VR {m : List Blk} {ι : Nat → Nat × Nat} {l : List C} {ks : List (Option IntKind)} (h : KL ks l) : VR w ι m (.agg l) (.agg (l.map (·.real)).toArray) := .agg (by simpa using L.hard_AR h.hard)
end
end Go.Proofs.Ytkoloapgeilbdaa
