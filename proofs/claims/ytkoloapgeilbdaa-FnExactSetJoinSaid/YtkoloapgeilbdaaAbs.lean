/-
  An abstract machine for the sequential Go of this program: abstract values and memory, and the relation that ties them to the model's worlds. No program in sight.
-/
import Derived.WalkKit
import Derived.Deep.Quiet
set_option linter.unusedVariables false
set_option linter.unusedSimpArgs false
namespace Go.Proofs.Ytkoloapgeilbdaa
open Go.RowKit

/-! ### Abstract values -/
inductive C where
  | junk | undef
  | bool (b : Bool) | int (k : IntKind) (n : Int) | str (s : ByteArray)
  | nilp | ptr (b off tot : Nat)
  | nils | sl (b off len tot : Nat)
  | fn (f : FuncId)
  | clo (f : FuncId) (ns : List (IntKind × Int))
  | clp (f : FuncId) (b off tot : Nat)
  | flat (v : Value)

structure Blk where
  cs : List C
  ty : TypeId
  esz : Nat
  own : Bool
/-- A block that stands for one; the others are places that are kept for blocks to come. -/
structure Blk.alive (b : Blk) : Prop where
  or : b.own = true ∨ b.esz = 0

inductive V where
  | c (x : C) | agg (cs : List C) | tup (vs : List V)

/-- The greater of two numbers, as an if. -/
def mx (a b : Nat) : Nat := if a ≤ b then b else a
theorem mx_le {a b c : Nat} : mx a b ≤ c ↔ a ≤ c ∧ b ≤ c := by unfold mx; split <;> omega
theorem le_mx_l (a b : Nat) : a ≤ mx a b := by unfold mx; split <;> omega
theorem le_mx_r (a b : Nat) : b ≤ mx a b := by unfold mx; split <;> omega
theorem mx_eq (a b : Nat) : mx a b = max a b := by unfold mx; split <;> omega

/-- One more than the greatest block that a cell names; 0 where it names none. -/
def C.refs : C → Nat
  | .ptr b _ _ | .sl b _ _ _ | .clp _ b _ _ => b + 1
  | _ => 0
def refsL : List C → Nat
  | [] => 0
  | c :: r => mx c.refs (refsL r)
theorem refsL_le {cs : List C} {n : Nat} : refsL cs ≤ n ↔ ∀ c ∈ cs, c.refs ≤ n := by
  induction cs with
  | nil => simp [refsL]
  | cons c r ih => simp [refsL, mx_le, ih]

mutual
def V.refs : V → Nat
  | .c x => x.refs
  | .agg cs => refsL cs
  | .tup vs => V.refsAll vs
def V.refsAll : List V → Nat
  | [] => 0
  | v :: r => mx v.refs (V.refsAll r)
end

/-! ### The relation -/
def atA (i : Nat → Nat × Nat) (b off : Nat) : Addr := ⟨(i b).1, (i b).2 + off, none⟩

def sizeAt (w : World) (g : Nat) : Option Nat :=
  match w.heap[g]? with
  | some (.cells rc _ _) => some rc.size
  | _ => none

inductive CR (w : World) (i : Nat → Nat × Nat) (m : List Blk) : C → Value → Prop
  | junk (r : Value) : CR w i m .junk r
  | undef : CR w i m .undef Go.undef
  | bool (b : Bool) : CR w i m (.bool b) (.bool b)
  | int (k : IntKind) (n : Int) : CR w i m (.int k n) (.int k n)
  | str (s : ByteArray) : CR w i m (.str s) (.string s)
  | nilp : CR w i m .nilp (.pointer none)
  | ptr {b off tot : Nat} {blk : Blk} {r : Value} (h1 : r.oneCell' = true) (h : m[b]? = some blk) (ht : tot ≤ blk.cs.length) (ha : blk.alive) (hv : tot = blk.cs.length → r = .pointer (some (atA i b off))) : CR w i m (.ptr b off tot) r
  | nils : CR w i m .nils (.slice none 0 0)
  | sl {b off len tot : Nat} {blk : Blk} {r : Value} (h1 : r.oneCell' = true) (h : m[b]? = some blk) (ht : tot ≤ blk.cs.length) (ha : blk.alive)
      (hv : tot = blk.cs.length → ∃ ad cap, r = .slice (some ad) len cap ∧ (0 < len ∨ off = 0 → ad = atA i b off) ∧ len ≤ cap ∧ cap ≤ maxLen ∧ (0 < blk.esz → off = 0 → sizeAt w (i b).1 = some (cap * blk.esz))) : CR w i m (.sl b off len tot) r
  | fn (f : FuncId) : CR w i m (.fn f) (.func (.func f) #[] #[])
  | clo (f : FuncId) (ns : List (IntKind × Int)) : CR w i m (.clo f ns) (.func (.func f) #[] (ns.map fun p => Value.int p.1 p.2).toArray)
  | clp (f : FuncId) {b off tot : Nat} {blk : Blk} {r : Value} (h1 : r.oneCell' = true) (h : m[b]? = some blk) (ht : tot ≤ blk.cs.length) (ha : blk.alive) (hv : tot = blk.cs.length → r = .pointer (some (atA i b off))) : CR w i m (.clp f b off tot) (.func (.func f) #[] #[r])
  | flat (v : Value) (h : v.oneCell' = true) : CR w i m (.flat v) v

/-- A list of cells and an array of values, cell by cell. -/
def AR (w : World) (i : Nat → Nat × Nat) (m : List Blk) (cs : List C) (rs : List Value) : Prop :=
  cs.length = rs.length ∧ ∀ (j : Nat) (c : C), cs[j]? = some c → ∃ r, rs[j]? = some r ∧ CR w i m c r ∧ r.oneCell' = true

inductive WR (w : World) (i : Nat → Nat × Nat) (m : List Blk) : V → Value → Prop
  | c {x : C} {r : Value} (h : CR w i m x r) : WR w i m (.c x) r
  | agg {cs : List C} {rs : Array Value} (h : AR w i m cs rs.toList) : WR w i m (.agg cs) (.agg rs)

inductive VR (w : World) (i : Nat → Nat × Nat) (m : List Blk) : V → Value → Prop
  | one {v : V} {r : Value} (h : WR w i m v r) : VR w i m v r
  | tup {vs : List V} {rs : Array Value} (hl : vs.length = rs.size) (h : ∀ (j : Nat) (v : V), vs[j]? = some v → ∃ r, rs[j]? = some r ∧ WR w i m v r) : VR w i m (.tup vs) (.tuple rs)
theorem VR.c {w : World} {i : Nat → Nat × Nat} {m : List Blk} {x : C} {r : Value} (h : CR w i m x r) : VR w i m (.c x) r := .one (.c h)
theorem VR.agg {w : World} {i : Nat → Nat × Nat} {m : List Blk} {cs : List C} {rs : Array Value} (h : AR w i m cs rs.toList) : VR w i m (.agg cs) (.agg rs) := .one (.agg h)
theorem VR.of_c {w : World} {i : Nat → Nat × Nat} {m : List Blk} {x : C} {r : Value} (h : VR w i m (.c x) r) : CR w i m x r := by
  cases h with
  | one h => cases h with | c h => exact h
theorem VR.of_agg {w : World} {i : Nat → Nat × Nat} {m : List Blk} {cs : List C} {r : Value} (h : VR w i m (.agg cs) r) : ∃ rs, r = .agg rs ∧ AR w i m cs rs.toList := by
  cases h with
  | one h => cases h with | agg h => exact ⟨_, rfl, h⟩

structure Sim (base : Nat) (w : World) (i : Nat → Nat × Nat) (m : List Blk) : Prop where
  le : base ≤ w.heap.size
  own : ∀ b blk, m[b]? = some blk → blk.own = true → base ≤ (i b).1 ∧ (i b).2 = 0 ∧
    ∃ rc, w.heap[(i b).1]? = some (.cells rc blk.ty (0, 0)) ∧ blk.cs.length ≤ rc.size ∧ ∀ (j : Nat) (c : C), blk.cs[j]? = some c → ∃ r, rc[j]? = some r ∧ CR w i m c r ∧ r.oneCell' = true
  ro : ∀ b blk, m[b]? = some blk → blk.own = false → blk.esz = 0 → (blk.cs ≠ [] → (i b).1 < base) ∧ ∀ (j : Nat) (c : C), blk.cs[j]? = some c → ∃ r, w.cell? (atA i b j) = some r ∧ CR w i m c r ∧ r.oneCell' = true
  non : ∀ (b : Nat) (blk : Blk), m[b]? = some blk → blk.own = false → blk.esz ≠ 0 → blk.cs = []
  inj : ∀ b b' blk blk', m[b]? = some blk → m[b']? = some blk' → blk.own = true → blk'.own = true → (i b).1 = (i b').1 → b = b'

/-- From one state of the memory to a later one: what was there is there. -/
def Evo (w : World) (i : Nat → Nat × Nat) (m : List Blk) (w' : World) (i' : Nat → Nat × Nat) (m' : List Blk) : Prop :=
  ∀ b blk, m[b]? = some blk → ∃ blk', m'[b]? = some blk' ∧ (blk.alive → blk'.own = blk.own ∧ blk'.esz = blk.esz ∧ blk.cs.length ≤ blk'.cs.length ∧
    (blk.cs.length = blk'.cs.length → i' b = i b ∧ (0 < blk.esz → sizeAt w' (i b).1 = sizeAt w (i b).1)))

theorem Evo.refl (w : World) (i : Nat → Nat × Nat) (m : List Blk) : Evo w i m w i m := fun b blk h => ⟨blk, h, fun _ => ⟨rfl, rfl, Nat.le_refl _, fun _ => ⟨rfl, fun _ => rfl⟩⟩⟩
theorem Blk.alive.alive_of {b b' : Blk} (h : b.alive) (h1 : b'.own = b.own) (h2 : b'.esz = b.esz) : b'.alive := ⟨by rw [h1, h2]; exact h.or⟩
theorem Evo.trans {w w' w'' : World} {i i' i'' : Nat → Nat × Nat} {m m' m'' : List Blk} (h : Evo w i m w' i' m') (k : Evo w' i' m' w'' i'' m'') : Evo w i m w'' i'' m'' := by
  intro b blk hb
  obtain ⟨blk1, h1, h⟩ := h b blk hb
  obtain ⟨blk2, k1, k⟩ := k b blk1 h1
  refine ⟨blk2, k1, fun ha => ?_⟩
  obtain ⟨h2, h3, h4, h5⟩ := h ha
  obtain ⟨k2, k3, k4, k5⟩ := k (ha.alive_of h2 h3)
  refine ⟨k2.trans h2, k3.trans h3, Nat.le_trans h4 k4, fun e => ?_⟩
  obtain ⟨a1, a2⟩ := h5 (by omega)
  obtain ⟨b1, b2⟩ := k5 (by omega)
  refine ⟨b1.trans a1, fun hz => ?_⟩
  rw [← a2 hz, ← a1]
  exact b2 (by rw [h3]; exact hz)

theorem CR.evo {w w' : World} {i i' : Nat → Nat × Nat} {m m' : List Blk} (h : Evo w i m w' i' m') {c : C} {r : Value} (hc : CR w i m c r) : CR w' i' m' c r := by
  cases hc with
  | junk => exact .junk _
  | undef => exact .undef
  | bool => exact .bool _
  | int => exact .int _ _
  | str => exact .str _
  | nilp => exact .nilp
  | nils => exact .nils
  | fn => exact .fn _
  | clo => exact .clo _ _
  | flat _ hv => exact .flat _ hv
  | @ptr b off tot blk _ h0 hb ht ha hv =>
    obtain ⟨blk', h1, h⟩ := h _ _ hb
    obtain ⟨h2, h3, h4, h5⟩ := h ha
    refine .ptr h0 h1 (by omega) (ha.alive_of h2 h3) fun e => ?_
    rw [hv (by omega)]
    unfold atA
    rw [(h5 (by omega)).1]
  | @clp f b off tot blk _ h0 hb ht ha hv =>
    obtain ⟨blk', h1, h⟩ := h _ _ hb
    obtain ⟨h2, h3, h4, h5⟩ := h ha
    refine .clp f h0 h1 (by omega) (ha.alive_of h2 h3) fun e => ?_
    rw [hv (by omega)]
    unfold atA
    rw [(h5 (by omega)).1]
  | @sl b off len tot blk _ h0 hb ht ha hv =>
    obtain ⟨blk', h1, h⟩ := h _ _ hb
    obtain ⟨h2, h3, h4, h5⟩ := h ha
    refine .sl h0 h1 (by omega) (ha.alive_of h2 h3) fun e => ?_
    obtain ⟨ad, cap, e1, e5, e2, e3, e4⟩ := hv (by omega)
    obtain ⟨g1, g2⟩ := h5 (by omega)
    refine ⟨ad, cap, e1, fun hq => ?_, e2, e3, fun hz ho => ?_⟩
    · rw [e5 hq]; unfold atA; rw [g1]
    · rw [h3] at hz ⊢
      rw [g1, g2 hz]
      exact e4 hz ho

theorem AR.evo {w w' : World} {i i' : Nat → Nat × Nat} {m m' : List Blk} (h : Evo w i m w' i' m') {cs : List C} {rs : List Value} (hc : AR w i m cs rs) : AR w' i' m' cs rs :=
  ⟨hc.1, fun j c hj => let ⟨r, h1, h2, h3⟩ := hc.2 j c hj; ⟨r, h1, h2.evo h, h3⟩⟩

theorem WR.evo {w w' : World} {i i' : Nat → Nat × Nat} {m m' : List Blk} (h : Evo w i m w' i' m') {v : V} {r : Value} (hc : WR w i m v r) : WR w' i' m' v r := by
  cases hc with
  | c hc => exact .c (hc.evo h)
  | agg hc => exact .agg (hc.evo h)
theorem VR.evo {w w' : World} {i i' : Nat → Nat × Nat} {m m' : List Blk} (h : Evo w i m w' i' m') {v : V} {r : Value} (hc : VR w i m v r) : VR w' i' m' v r := by
  cases hc with
  | one hc => exact .one (hc.evo h)
  | tup hl hh => exact .tup hl fun j v hj => let ⟨r, h1, h2⟩ := hh j v hj; ⟨r, h1, h2.evo h⟩

/-- What a call leaves of the world outside of what it owns. -/
structure Fr (w : World) (i : Nat → Nat × Nat) (m : List Blk) (w' : World) : Prop where
  os : w'.os = w.os
  tape : w'.tape = w.tape
  output : w'.output = w.output
  size : w.heap.size ≤ w'.heap.size
  blk : ∀ g, g < w.heap.size → (∀ b blk, m[b]? = some blk → blk.own = true → (i b).1 ≠ g) → w'.heap[g]? = w.heap[g]?

theorem Fr.of_below {w w' : World} {i : Nat → Nat × Nat} {m : List Blk} (h : Below w.heap.size w w') : Fr w i m w' := ⟨h.os, h.tape, h.output, h.size, fun g hg _ => h.block g hg⟩
theorem Fr.refl (w : World) (i : Nat → Nat × Nat) (m : List Blk) : Fr w i m w := Fr.of_below (Below.refl _ _)

/-- No block of the later memory that is owned lies, in the world, where a block of the earlier world lay that was not owned. -/
def Fresh (w : World) (i : Nat → Nat × Nat) (m : List Blk) (i' : Nat → Nat × Nat) (m' : List Blk) : Prop :=
  ∀ b blk, m'[b]? = some blk → blk.own = true → (i' b).1 < w.heap.size → ∃ b' blk', m[b']? = some blk' ∧ blk'.own = true ∧ (i b').1 = (i' b).1

theorem Fresh.refl (w : World) (i : Nat → Nat × Nat) (m : List Blk) : Fresh w i m i m := fun b blk h ho _ => ⟨b, blk, h, ho, rfl⟩
theorem Fresh.trans {w w' : World} {i i' i'' : Nat → Nat × Nat} {m m' m'' : List Blk} (hs : w.heap.size ≤ w'.heap.size) (h : Fresh w i m i' m') (k : Fresh w' i' m' i'' m'') : Fresh w i m i'' m'' := by
  intro b blk hb ho hl
  obtain ⟨b1, blk1, h1, h2, h3⟩ := k b blk hb ho (by omega)
  obtain ⟨b2, blk2, g1, g2, g3⟩ := h b1 blk1 h1 h2 (by omega)
  exact ⟨b2, blk2, g1, g2, by omega⟩
theorem Fr.trans {w w' w'' : World} {i i' : Nat → Nat × Nat} {m m' : List Blk} (h : Fr w i m w') (hf : Fresh w i m i' m') (k : Fr w' i' m' w'') : Fr w i m w'' :=
  ⟨k.os.trans h.os, k.tape.trans h.tape, k.output.trans h.output, Nat.le_trans h.size k.size, fun g hg hn => by
    refine (k.blk g (Nat.lt_of_lt_of_le hg h.size) fun b blk hb ho e => ?_).trans (h.blk g hg hn)
    obtain ⟨b', blk', h1, h2, h3⟩ := hf b blk hb ho (by omega)
    exact hn b' blk' h1 h2 (by omega)⟩

/-! ### Worlds that agree on all that was there -/
theorem sizeAt_below {w w' : World} (h : Below w.heap.size w w') {g : Nat} {n : Nat} (hs : sizeAt w g = some n) : sizeAt w' g = some n := by
  unfold sizeAt at *
  by_cases hg : g < w.heap.size
  · rw [h.block g hg]; exact hs
  · have : w.heap[g]? = none := by simp; omega
    rw [this] at hs; cases hs

theorem CR.below {w w' : World} (h : Below w.heap.size w w') {i : Nat → Nat × Nat} {m : List Blk} {c : C} {r : Value} (hc : CR w i m c r) : CR w' i m c r := by
  cases hc with
  | junk => exact .junk _
  | undef => exact .undef
  | bool => exact .bool _
  | int => exact .int _ _
  | str => exact .str _
  | nilp => exact .nilp
  | nils => exact .nils
  | fn => exact .fn _
  | clo => exact .clo _ _
  | flat _ hv => exact .flat _ hv
  | ptr h0 hb ht ha hv => exact .ptr h0 hb ht ha hv
  | clp f h0 hb ht ha hv => exact .clp f h0 hb ht ha hv
  | sl h0 hb ht ha hv =>
    refine .sl h0 hb ht ha fun e => ?_
    obtain ⟨ad, cap, e1, e5, e2, e3, e4⟩ := hv e
    exact ⟨ad, cap, e1, e5, e2, e3, fun hz ho => sizeAt_below h (e4 hz ho)⟩
theorem AR.below {w w' : World} (h : Below w.heap.size w w') {i : Nat → Nat × Nat} {m : List Blk} {cs : List C} {rs : List Value} (hc : AR w i m cs rs) : AR w' i m cs rs :=
  ⟨hc.1, fun j c hj => let ⟨r, h1, h2, h3⟩ := hc.2 j c hj; ⟨r, h1, h2.below h, h3⟩⟩
theorem WR.below {w w' : World} (h : Below w.heap.size w w') {i : Nat → Nat × Nat} {m : List Blk} {v : V} {r : Value} (hc : WR w i m v r) : WR w' i m v r := by
  cases hc with
  | c hc => exact .c (hc.below h)
  | agg hc => exact .agg (hc.below h)
theorem VR.below {w w' : World} (h : Below w.heap.size w w') {i : Nat → Nat × Nat} {m : List Blk} {v : V} {r : Value} (hc : VR w i m v r) : VR w' i m v r := by
  cases hc with
  | one hc => exact .one (hc.below h)
  | tup hl hh => exact .tup hl fun j v hj => let ⟨r, h1, h2⟩ := hh j v hj; ⟨r, h1, h2.below h⟩
theorem Sim.below {base : Nat} {w w' : World} (h : Below w.heap.size w w') {i : Nat → Nat × Nat} {m : List Blk} (s : Sim base w i m) : Sim base w' i m where
  le := Nat.le_trans s.le h.size
  own b blk hb ho := by
    obtain ⟨h1, h2, rc, h3, h4, h5⟩ := s.own b blk hb ho
    have hg : (i b).1 < w.heap.size := (Array.getElem?_eq_some_iff.1 h3).1
    refine ⟨h1, h2, rc, (h.block _ hg).trans h3, h4, fun j c hj => ?_⟩
    obtain ⟨r, g1, g2, g3⟩ := h5 j c hj
    exact ⟨r, g1, g2.below h, g3⟩
  ro b blk hb ho hz := by
    obtain ⟨h1, h2⟩ := s.ro b blk hb ho hz
    refine ⟨h1, fun j c hj => ?_⟩
    obtain ⟨r, g1, g2, g3⟩ := h2 j c hj
    exact ⟨r, (h.cell (p := atA i b j) (Nat.lt_of_lt_of_le (h1 fun e => by rw [e] at hj; cases hj) s.le)).trans g1, g2.below h, g3⟩
  non := s.non
  inj := s.inj
theorem Evo.below {w w' : World} (h : Below w.heap.size w w') {base : Nat} {i : Nat → Nat × Nat} {m : List Blk} (s : Sim base w i m) : Evo w i m w' i m := by
  intro b blk hb
  refine ⟨blk, hb, fun ha => ⟨rfl, rfl, Nat.le_refl _, fun _ => ⟨rfl, fun hz => ?_⟩⟩⟩
  cases ho : blk.own with
  | true =>
    obtain ⟨h1, h2, rc, h3, _⟩ := s.own b blk hb ho
    have hg : (i b).1 < w.heap.size := (Array.getElem?_eq_some_iff.1 h3).1
    unfold sizeAt
    rw [h.block _ hg]
  | false =>
    rcases ha.or with ha | ha
    · rw [ho] at ha; cases ha
    · omega

/-! ### What is read -/
theorem add_atA (i : Nat → Nat × Nat) (b off j : Nat) : (atA i b off).add j = atA i b (off + j) := by
  unfold atA Addr.add
  split
  · simp_all
  · simp [Nat.add_assoc]

/-- A cell of a live block, in the world. -/
theorem Sim.cell {base : Nat} {w : World} {i : Nat → Nat × Nat} {m : List Blk} (s : Sim base w i m) {b : Nat} {blk : Blk} (hb : m[b]? = some blk) {j : Nat} {c : C} (hj : blk.cs[j]? = some c) :
    ∃ r, w.cell? (atA i b j) = some r ∧ CR w i m c r ∧ r.oneCell' = true := by
  cases ho : blk.own with
  | true =>
    obtain ⟨h1, h2, rc, h3, h4, h5⟩ := s.own b blk hb ho
    obtain ⟨r, g1, g2, g3⟩ := h5 j c hj
    refine ⟨r, ?_, g2, g3⟩
    simp only [World.cell?, atA, h2, Nat.zero_add, h3]
    simpa using g1
  | false =>
    by_cases hz : blk.esz = 0
    · exact (s.ro b blk hb ho hz).2 j c hj
    · rw [s.non b blk hb ho hz] at hj; cases hj

theorem Sim.block_lt {base : Nat} {w : World} {i : Nat → Nat × Nat} {m : List Blk} (s : Sim base w i m) {b : Nat} {blk : Blk} (hb : m[b]? = some blk) (ha : blk.alive) (hne : blk.own = true ∨ blk.cs ≠ []) : (i b).1 < w.heap.size := by
  cases ho : blk.own with
  | true =>
    obtain ⟨h1, h2, rc, h3, h4, h5⟩ := s.own b blk hb ho
    exact (Array.getElem?_eq_some_iff.1 h3).1
  | false =>
    rcases ha.or with ha | ha
    · rw [ho] at ha; cases ha
    · exact Nat.lt_of_lt_of_le ((s.ro b blk hb ho ha).1 (hne.resolve_left (by simp [ho]))) s.le

/-- Several cells of a live block. -/
theorem Sim.cells {base : Nat} {w : World} {i : Nat → Nat × Nat} {m : List Blk} (s : Sim base w i m) {b : Nat} {blk : Blk} (hb : m[b]? = some blk) (off n : Nat) (hn : off + n ≤ blk.cs.length) :
    ∃ rs : List Value, AR w i m ((blk.cs.drop off).take n) rs ∧ ∀ j v, rs[j]? = some v → w.cell? ((atA i b off).add j) = some v := by
  induction n with
  | zero => exact ⟨[], ⟨by simp, by simp⟩, by simp⟩
  | succ n ih =>
    obtain ⟨rs, ⟨h1, h2⟩, h3⟩ := ih (by omega)
    have hl : off + n < blk.cs.length := by omega
    obtain ⟨r, g1, g2, g3⟩ := s.cell hb (j := off + n) (c := blk.cs[off + n]) (by simp)
    have hlen : rs.length = n := by rw [← h1]; simp; omega
    have ht : (blk.cs.drop off).take (n + 1) = (blk.cs.drop off).take n ++ [blk.cs[off + n]] := by
      rw [List.take_succ_eq_append_getElem (by simp; omega)]
      simp
    refine ⟨rs ++ [r], ⟨by rw [ht]; simp [h1], fun j c hj => ?_⟩, fun j v hj => ?_⟩
    · rw [ht] at hj
      have hl' : ((blk.cs.drop off).take n).length = n := by simp; omega
      rcases Nat.lt_or_ge j n with h | h
      · rw [List.getElem?_append_left (by omega)] at hj
        rw [List.getElem?_append_left (by omega)]
        exact h2 j c hj
      · rw [List.getElem?_append_right (by omega), hl'] at hj
        rw [List.getElem?_append_right (by omega), hlen]
        rcases Nat.eq_zero_or_pos (j - n) with h0 | h0
        · rw [h0] at hj ⊢
          simp at hj
          subst hj
          exact ⟨r, rfl, g2, g3⟩
        · rw [List.getElem?_eq_none (by simp; omega)] at hj
          cases hj
    · rcases Nat.lt_or_ge j n with h | h
      · rw [List.getElem?_append_left (by omega)] at hj
        exact h3 j v hj
      · rw [List.getElem?_append_right (by omega), hlen] at hj
        rcases Nat.eq_zero_or_pos (j - n) with h0 | h0
        · rw [h0] at hj
          simp at hj
          subst hj
          have : j = n := by omega
          subst this
          rw [add_atA]
          exact g1
        · rw [List.getElem?_eq_none (by simp; omega)] at hj
          cases hj
end Go.Proofs.Ytkoloapgeilbdaa
