/-
  The abstract machine is sound, first part: operations that leave the memory alone.
-/
import Derived.Test.YtkoloapgeilbdaaIr
set_option linter.unusedVariables false
set_option linter.unusedSimpArgs false
namespace Go.Proofs.Ytkoloapgeilbdaa
open Go.RowKit

section
variable {P : Program} {w : World} {ι : Nat → Nat × Nat} {m : List Blk}

theorem cv_CR (v : Value) : CR w ι m (cv v) v := by
  cases v with
  | int k n => exact .int _ _
  | bool b => exact .bool _
  | string s => exact .str _
  | pointer a =>
    cases a with
    | none => exact .nilp
    | some a => exact .junk _
  | slice a n c =>
    simp only [cv]
    split
    · rename_i h
      simp only [Bool.and_eq_true, beq_iff_eq, Option.isNone_iff_eq_none] at h
      obtain ⟨⟨rfl, rfl⟩, rfl⟩ := h
      exact .nils
    · exact .junk _
  | func fn x y =>
    cases fn with
    | func f =>
      simp only [cv]
      split
      · rename_i h
        simp only [Bool.and_eq_true, Array.isEmpty_iff] at h
        obtain ⟨rfl, rfl⟩ := h
        exact .fn f
      · exact .junk _
    | _ => exact .junk _
  | nilFunc => exact .flat _ rfl
  | nilIface => exact .flat _ rfl
  | map r => exact .flat _ rfl
  | _ => exact .junk _

theorem trV_VR (v : Value) : VR w ι m (trV v) v := by
  unfold trV
  split
  · rename_i cs
    split
    · rename_i h
      refine .agg ⟨by simp, fun j c hj => ?_⟩
      simp only [List.getElem?_map, Option.map_eq_some_iff] at hj
      obtain ⟨r, hr, rfl⟩ := hj
      refine ⟨r, hr, cv_CR r, ?_⟩
      have hm : r ∈ cs := by
        have := List.mem_of_getElem? hr
        simpa using this
      exact (Array.all_eq_true'.1 h) r hm
    · exact .c (.junk _)
  · exact .c (cv_CR _)

/-- What the temporaries hold is what the abstract ones say. -/
def EnvR (w : World) (ι : Nat → Nat × Nat) (m : List Blk) (env : List (Nat × V)) (a : Act) : Prop := ∀ t, VR w ι m (get env t) (a.tmps.getD t undef)

theorem EnvR.evo {w' : World} {ι' : Nat → Nat × Nat} {m' : List Blk} {env : List (Nat × V)} {a : Act} (h : EnvR w ι m env a) (he : Evo w ι m w' ι' m') : EnvR w' ι' m' env a := fun t => (h t).evo he
theorem EnvR.below {w' : World} {env : List (Nat × V)} {a : Act} (h : EnvR w ι m env a) (he : Below w.heap.size w w') : EnvR w' ι m env a := fun t => (h t).below he

theorem EnvR.put {env : List (Nat × V)} {a : Act} (h : EnvR w ι m env a) {d : Nat} {v : V} {r : Value} (hd : d < a.tmps.size) (hv : VR w ι m v r) : EnvR w ι m ((d, v) :: env) (a.put (some d) r) := by
  intro t
  simp only [get, Act.put]
  split
  · rename_i e
    subst e
    simpa [hd] using hv
  · rename_i e
    have := h t
    simpa [Array.getElem?_setIfInBounds, e] using this

theorem ev_VR {env : List (Nat × V)} {a : Act} (h : EnvR w ι m env a) (x : Operand) : VR w ι m ((trO x).ev env) (a.eval x) := by
  cases x with
  | tmp t => exact h t
  | const v => exact trV_VR v
  | global g => exact .c (.junk _)
  | func f => exact .c (.fn f)

theorem live_some {b tot : Nat} {blk : Blk} (h : live m b tot = some blk) : m[b]? = some blk ∧ tot = blk.cs.length := by
  unfold live at h
  cases hb : m[b]? with
  | none => rw [hb] at h; cases h
  | some blk' =>
    rw [hb] at h
    simp only [Option.bind_some] at h
    split at h
    · injection h with h; subst h; exact ⟨rfl, by assumption⟩
    · cases h

theorem VR.ptr {b off tot : Nat} {blk : Blk} {r : Value} (h : VR w ι m (.c (.ptr b off tot)) r) (hl : live m b tot = some blk) : r = .pointer (some (atA ι b off)) := by
  obtain ⟨hb, ht⟩ := live_some hl
  cases h.of_c with
  | @ptr _ _ _ blk' _ _ hb' ht' ha hv =>
    rw [hb] at hb'
    injection hb' with hb'
    subst hb'
    exact hv ht

theorem VR.sl {b off len tot : Nat} {blk : Blk} {r : Value} (h : VR w ι m (.c (.sl b off len tot)) r) (hl : live m b tot = some blk) :
    ∃ ad cap, r = .slice (some ad) len cap ∧ (0 < len ∨ off = 0 → ad = atA ι b off) ∧ len ≤ cap ∧ cap ≤ maxLen ∧ (0 < blk.esz → off = 0 → sizeAt w (ι b).1 = some (cap * blk.esz)) := by
  obtain ⟨hb, ht⟩ := live_some hl
  cases h.of_c with
  | @sl _ _ _ _ blk' _ _ hb' ht' ha hv =>
    rw [hb] at hb'
    injection hb' with hb'
    subst hb'
    exact hv ht

theorem VR.pal {b off tot : Nat} {blk : Blk} {r : Value} (h : VR w ι m (.c (.ptr b off tot)) r) (hb : m[b]? = some blk) : blk.alive := by
  cases h.of_c with
  | @ptr _ _ _ blk' _ _ hb' ht' ha hv =>
    rw [hb] at hb'
    injection hb' with hb'
    subst hb'
    exact ha
theorem VR.sal {b off len tot : Nat} {blk : Blk} {r : Value} (h : VR w ι m (.c (.sl b off len tot)) r) (hb : m[b]? = some blk) : blk.alive := by
  cases h.of_c with
  | @sl _ _ _ _ blk' _ _ hb' ht' ha hv =>
    rw [hb] at hb'
    injection hb' with hb'
    subst hb'
    exact ha

theorem VR.int {k : IntKind} {n : Int} {r : Value} (h : VR w ι m (.c (.int k n)) r) : r = .int k n := by cases h.of_c; rfl
theorem VR.bool {b : Bool} {r : Value} (h : VR w ι m (.c (.bool b)) r) : r = .bool b := by cases h.of_c; rfl
theorem VR.str {s : ByteArray} {r : Value} (h : VR w ι m (.c (.str s)) r) : r = .string s := by cases h.of_c; rfl
theorem VR.nils {r : Value} (h : VR w ι m (.c .nils) r) : r = .slice none 0 0 := by cases h.of_c; rfl
theorem VR.clo {f : FuncId} {ns : List (IntKind × Int)} {r : Value} (h : VR w ι m (.c (.clo f ns)) r) : r = .func (.func f) #[] (ns.map fun p => Value.int p.1 p.2).toArray := by cases h.of_c; rfl
theorem VR.clp {f : FuncId} {b off tot : Nat} {r : Value} (h : VR w ι m (.c (.clp f b off tot)) r) : ∃ r', r = .func (.func f) #[] #[r'] ∧ CR w ι m (.ptr b off tot) r' := by
  cases h.of_c with
  | clp _ h0 hb ht ha hv => exact ⟨_, rfl, .ptr h0 hb ht ha hv⟩
theorem VR.fn {f : FuncId} {r : Value} (h : VR w ι m (.c (.fn f)) r) : r = .func (.func f) #[] #[] := by cases h.of_c; rfl
theorem int?_some {v : V} {n : Int} (h : v.int? = some n) : ∃ k, v = .c (.int k n) := by
  unfold V.int? at h
  split at h
  · injection h with h; subst h; exact ⟨_, rfl⟩
  · cases h
theorem bool?_some {v : V} {n : Bool} (h : v.bool? = some n) : v = .c (.bool n) := by
  unfold V.bool? at h
  split at h
  · injection h with h; subst h; rfl
  · cases h

theorem run_isAgg {t : TypeId} {ag : Bool} (h : aggT P t = some ag) (w : World) : (isAgg t).run P w = .ok ag w := by
  unfold aggT at h
  cases hu : P.underlying t with
  | none => rw [hu] at h; cases h
  | some d =>
    rw [hu] at h
    simp only [Option.map_some, Option.some.injEq] at h
    unfold isAgg
    simp only [Sem.run_bind, run_underlying hu w, Result.andThen_ok]
    cases d <;> simp_all

theorem run_sizeOf {t : TypeId} {n : Nat} (h : szT P t = some n) (w : World) : (sizeOf t).run P w = .ok n w := by
  unfold szT at h
  cases hi : P.info? t with
  | none => rw [hi] at h; cases h
  | some i =>
    rw [hi] at h
    simp only [Option.map_some, Option.some.injEq] at h
    simp [sizeOf, typeInfo, hi, h]

/-- A load of several cells, in every world that agrees. -/
theorem run_load_agg {base : Nat} (s : Sim base w ι m) {t : TypeId} {n : Nat} (ha : aggT P t = some true) (hz : szT P t = some n) {b : Nat} {blk : Blk} (hb : m[b]? = some blk) (hal : blk.alive) (off : Nat) (hn : off + n ≤ blk.cs.length) :
    ∃ rs : List Value, AR w ι m ((blk.cs.drop off).take n) rs ∧ ∀ w', Below w.heap.size w w' → (loadVar t (atA ι b off)).run P w' = .ok (.agg rs.toArray) w' := by
  obtain ⟨rs, h1, h2⟩ := s.cells hb off n hn
  refine ⟨rs, h1, fun w' hw => ?_⟩
  have hlen : rs.length = n := by rw [← h1.1]; simp; omega
  have hl := run_loadCells_list (P := P) w' (atA ι b off) rs (fun j v hj => by
    rw [hw.cell (by rw [add_atA]; exact s.block_lt hb hal (.inr fun e => by
      have hlt : j < rs.length := (List.getElem?_eq_some_iff.1 hj).1
      have := h1.1
      rw [e] at this
      simp at this
      omega))]
    exact h2 j v hj)
  rw [hlen] at hl
  simp [loadVar, run_isAgg ha, run_sizeOf hz, hl]

theorem run_load_one {base : Nat} (s : Sim base w ι m) {t : TypeId} (ha : aggT P t = some false) {b : Nat} {blk : Blk} (hb : m[b]? = some blk) (hal : blk.alive) {off : Nat} {c : C} (hc : blk.cs[off]? = some c) :
    ∃ r, CR w ι m c r ∧ r.oneCell' = true ∧ ∀ w', Below w.heap.size w w' → (loadVar t (atA ι b off)).run P w' = .ok r w' := by
  obtain ⟨r, h1, h2, h3⟩ := s.cell hb hc
  refine ⟨r, h2, h3, fun w' hw => ?_⟩
  have hl : w'.cell? (atA ι b off) = some r := by
    rw [hw.cell (s.block_lt hb hal (.inr fun e => by rw [e] at hc; cases hc))]
    exact h1
  simp [loadVar, run_isAgg ha, hl]

end
end Go.Proofs.Ytkoloapgeilbdaa
