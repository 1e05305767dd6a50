/-
 An abstract machine for the sequential Go of this program: abstract values and memory, and the relation that ties them to the model's worlds. No program in sight.
-/
import Derived.WalkKit
import Derived.Deep.Quiet
import Derived.Laws.StructEq
import Derived.ChangeKeysEq
set_option linter.unusedVariables false
set_option linter.unusedSimpArgs false
namespace Go.Proofs.YtfbeplbcaanimaaGreat
open Go.RowKit
inductive C where
 | junk | undef
 | bool (b : Bool) | int (k : IntKind) (n : Int) | str (s : ByteArray)
 | nilp | ptr (b off tot : Nat)
 | nils | sl (b off len tot : Nat)
 | fn (f : FuncId)
 | clo (f : FuncId) (ns : List (IntKind × Int))
 | clp (f : FuncId) (b off tot : Nat)
 | flat (v : Value)
structure Blk where
 cs : List C
 ty : TypeId
 esz : Nat
 own : Bool
structure Blk.alive (b : Blk) : Prop where
 or : b.own = true ∨ b.esz = 0
inductive V where
 | c (x : C) | agg (cs : List C) | tup (vs : List V)
def mx (a b : Nat) : Nat := if a ≤ b then b else a
theorem mx_le {a b c : Nat} : mx a b ≤ c ↔ a ≤ c ∧ b ≤ c := by unfold mx; split <;> omega
theorem le_mx_l (a b : Nat) : a ≤ mx a b := by unfold mx; split <;> omega
theorem le_mx_r (a b : Nat) : b ≤ mx a b := by unfold mx; split <;> omega
theorem mx_eq (a b : Nat) : mx a b = max a b := by unfold mx; split <;> omega
def C.refs : C → Nat
 | .ptr b _ _ | .sl b _ _ _ | .clp _ b _ _ => b + 1
 | _ => 0
def refsL : List C → Nat
 | [] => 0
 | c :: r => mx c.refs (refsL r)
theorem refsL_le {cs : List C} {n : Nat} : refsL cs ≤ n ↔ ∀ c ∈ cs, c.refs ≤ n := by
 induction cs with
 | nil => simp [refsL]
 | cons c r ih => simp [refsL, mx_le, ih]
mutual
def V.refs : V → Nat
 | .c x => x.refs
 | .agg cs => refsL cs
 | .tup vs => V.refsAll vs
def V.refsAll : List V → Nat
 | [] => 0
 | v :: r => mx v.refs (V.refsAll r)
end
def atA (i : Nat → Nat × Nat) (b off : Nat) : Addr := ⟨(i b).1, (i b).2 + off, none⟩
def sizeAt (w : World) (g : Nat) : Option Nat :=
 match w.heap[g]? with
 | some (.cells rc _ _) => some rc.size
 | _ => none
inductive CR (w : World) (i : Nat → Nat × Nat) (m : List Blk) : C → Value → Prop
 | junk (r : Value) : CR w i m .junk r
 | undef : CR w i m .undef Go.undef
 | bool (b : Bool) : CR w i m (.bool b) (.bool b)
 | int (k : IntKind) (n : Int) : CR w i m (.int k n) (.int k n)
 | str (s : ByteArray) : CR w i m (.str s) (.string s)
 | nilp : CR w i m .nilp (.pointer none)
 | ptr {b off tot : Nat} {blk : Blk} {r : Value} (h1 : r.oneCell' = true) (h : m[b]? = some blk) (ht : tot ≤ blk.cs.length) (ha : blk.alive) (hv : tot = blk.cs.length → r = .pointer (some (atA i b off))) : CR w i m (.ptr b off tot) r
 | nils : CR w i m .nils (.slice none 0 0)
 | sl {b off len tot : Nat} {blk : Blk} {r : Value} (h1 : r.oneCell' = true) (h : m[b]? = some blk) (ht : tot ≤ blk.cs.length) (ha : blk.alive)
   (hv : tot = blk.cs.length → ∃ ad cap, r = .slice (some ad) len cap ∧ (0 < len ∨ off = 0 → ad = atA i b off) ∧ len ≤ cap ∧ cap ≤ maxLen ∧ (0 < blk.esz → off = 0 → sizeAt w (i b).1 = some (cap * blk.esz))) : CR w i m (.sl b off len tot) r
 | fn (f : FuncId) : CR w i m (.fn f) (.func (.func f) #[] #[])
 | clo (f : FuncId) (ns : List (IntKind × Int)) : CR w i m (.clo f ns) (.func (.func f) #[] (ns.map fun p => Value.int p.1 p.2).toArray)
 | clp (f : FuncId) {b off tot : Nat} {blk : Blk} {r : Value} (h1 : r.oneCell' = true) (h : m[b]? = some blk) (ht : tot ≤ blk.cs.length) (ha : blk.alive) (hv : tot = blk.cs.length → r = .pointer (some (atA i b off))) : CR w i m (.clp f b off tot) (.func (.func f) #[] #[r])
 | flat (v : Value) (h : v.oneCell' = true) : CR w i m (.flat v) v
def AR (w : World) (i : Nat → Nat × Nat) (m : List Blk) (cs : List C) (rs : List Value) : Prop :=
 cs.length = rs.length ∧ ∀ (j : Nat) (c : C), cs[j]? = some c → ∃ r, rs[j]? = some r ∧ CR w i m c r ∧ r.oneCell' = true
inductive WR (w : World) (i : Nat → Nat × Nat) (m : List Blk) : V → Value → Prop
 | c {x : C} {r : Value} (h : CR w i m x r) : WR w i m (.c x) r
 | agg {cs : List C} {rs : Array Value} (h : AR w i m cs rs.toList) : WR w i m (.agg cs) (.agg rs)
inductive VR (w : World) (i : Nat → Nat × Nat) (m : List Blk) : V → Value → Prop
 | one {v : V} {r : Value} (h : WR w i m v r) : VR w i m v r
 | tup {vs : List V} {rs : Array Value} (hl : vs.length = rs.size) (h : ∀ (j : Nat) (v : V), vs[j]? = some v → ∃ r, rs[j]? = some r ∧ WR w i m v r) : VR w i m (.tup vs) (.tuple rs)
theorem VR.c {w : World} {i : Nat → Nat × Nat} {m : List Blk} {x : C} {r : Value} (h : CR w i m x r) : VR w i m (.c x) r := .one (.c h)
theorem VR.agg {w : World} {i : Nat → Nat × Nat} {m : List Blk} {cs : List C} {rs : Array Value} (h : AR w i m cs rs.toList) : VR w i m (.agg cs) (.agg rs) := .one (.agg h)
theorem VR.of_c {w : World} {i : Nat → Nat × Nat} {m : List Blk} {x : C} {r : Value} (h : VR w i m (.c x) r) : CR w i m x r := by
 cases h with
 | one h => cases h with | c h => exact h
theorem VR.of_agg {w : World} {i : Nat → Nat × Nat} {m : List Blk} {cs : List C} {r : Value} (h : VR w i m (.agg cs) r) : ∃ rs, r = .agg rs ∧ AR w i m cs rs.toList := by
 cases h with
 | one h => cases h with | agg h => exact ⟨_, rfl, h⟩
structure Sim (base : Nat) (w : World) (i : Nat → Nat × Nat) (m : List Blk) : Prop where
 le : base ≤ w.heap.size
 own : ∀ b blk, m[b]? = some blk → blk.own = true → base ≤ (i b).1 ∧ (i b).2 = 0 ∧
  ∃ rc, w.heap[(i b).1]? = some (.cells rc blk.ty (0, 0)) ∧ blk.cs.length ≤ rc.size ∧ ∀ (j : Nat) (c : C), blk.cs[j]? = some c → ∃ r, rc[j]? = some r ∧ CR w i m c r ∧ r.oneCell' = true
 ro : ∀ b blk, m[b]? = some blk → blk.own = false → blk.esz = 0 → (blk.cs ≠ [] → (i b).1 < base) ∧ ∀ (j : Nat) (c : C), blk.cs[j]? = some c → ∃ r, w.cell? (atA i b j) = some r ∧ CR w i m c r ∧ r.oneCell' = true
 non : ∀ (b : Nat) (blk : Blk), m[b]? = some blk → blk.own = false → blk.esz ≠ 0 → blk.cs = []
 inj : ∀ b b' blk blk', m[b]? = some blk → m[b']? = some blk' → blk.own = true → blk'.own = true → (i b).1 = (i b').1 → b = b'
def Evo (w : World) (i : Nat → Nat × Nat) (m : List Blk) (w' : World) (i' : Nat → Nat × Nat) (m' : List Blk) : Prop :=
 ∀ b blk, m[b]? = some blk → ∃ blk', m'[b]? = some blk' ∧ (blk.alive → blk'.own = blk.own ∧ blk'.esz = blk.esz ∧ blk.cs.length ≤ blk'.cs.length ∧
  (blk.cs.length = blk'.cs.length → i' b = i b ∧ (0 < blk.esz → sizeAt w' (i b).1 = sizeAt w (i b).1)))
theorem Evo.refl (w : World) (i : Nat → Nat × Nat) (m : List Blk) : Evo w i m w i m := fun b blk h => ⟨blk, h, fun _ => ⟨rfl, rfl, Nat.le_refl _, fun _ => ⟨rfl, fun _ => rfl⟩⟩⟩
theorem Blk.alive.alive_of {b b' : Blk} (h : b.alive) (h1 : b'.own = b.own) (h2 : b'.esz = b.esz) : b'.alive := ⟨by rw [h1, h2]; exact h.or⟩
theorem Evo.trans {w w' w'' : World} {i i' i'' : Nat → Nat × Nat} {m m' m'' : List Blk} (h : Evo w i m w' i' m') (k : Evo w' i' m' w'' i'' m'') : Evo w i m w'' i'' m'' := by
 intro b blk hb
 obtain ⟨blk1, h1, h⟩ := h b blk hb
 obtain ⟨blk2, k1, k⟩ := k b blk1 h1
 refine ⟨blk2, k1, fun ha => ?_⟩
 obtain ⟨h2, h3, h4, h5⟩ := h ha
 obtain ⟨k2, k3, k4, k5⟩ := k (ha.alive_of h2 h3)
 refine ⟨k2.trans h2, k3.trans h3, Nat.le_trans h4 k4, fun e => ?_⟩
 obtain ⟨a1, a2⟩ := h5 (by omega)
 obtain ⟨b1, b2⟩ := k5 (by omega)
 refine ⟨b1.trans a1, fun hz => ?_⟩
 rw [← a2 hz, ← a1]
 exact b2 (by rw [h3]; exact hz)
theorem CR.evo {w w' : World} {i i' : Nat → Nat × Nat} {m m' : List Blk} (h : Evo w i m w' i' m') {c : C} {r : Value} (hc : CR w i m c r) : CR w' i' m' c r := by
 cases hc with
 | junk => exact .junk _
 | undef => exact .undef
 | bool => exact .bool _
 | int => exact .int _ _
 | str => exact .str _
 | nilp => exact .nilp
 | nils => exact .nils
 | fn => exact .fn _
 | clo => exact .clo _ _
 | flat _ hv => exact .flat _ hv
 | @ptr b off tot blk _ h0 hb ht ha hv =>
  obtain ⟨blk', h1, h⟩ := h _ _ hb
  obtain ⟨h2, h3, h4, h5⟩ := h ha
  refine .ptr h0 h1 (by omega) (ha.alive_of h2 h3) fun e => ?_
  rw [hv (by omega)]
  unfold atA
  rw [(h5 (by omega)).1]
 | @clp f b off tot blk _ h0 hb ht ha hv =>
  obtain ⟨blk', h1, h⟩ := h _ _ hb
  obtain ⟨h2, h3, h4, h5⟩ := h ha
  refine .clp f h0 h1 (by omega) (ha.alive_of h2 h3) fun e => ?_
  rw [hv (by omega)]
  unfold atA
  rw [(h5 (by omega)).1]
 | @sl b off len tot blk _ h0 hb ht ha hv =>
  obtain ⟨blk', h1, h⟩ := h _ _ hb
  obtain ⟨h2, h3, h4, h5⟩ := h ha
  refine .sl h0 h1 (by omega) (ha.alive_of h2 h3) fun e => ?_
  obtain ⟨ad, cap, e1, e5, e2, e3, e4⟩ := hv (by omega)
  obtain ⟨g1, g2⟩ := h5 (by omega)
  refine ⟨ad, cap, e1, fun hq => ?_, e2, e3, fun hz ho => ?_⟩
  ·rw [e5 hq]; unfold atA; rw [g1]
  ·rw [h3] at hz ⊢
   rw [g1, g2 hz]
   exact e4 hz ho
theorem AR.evo {w w' : World} {i i' : Nat → Nat × Nat} {m m' : List Blk} (h : Evo w i m w' i' m') {cs : List C} {rs : List Value} (hc : AR w i m cs rs) : AR w' i' m' cs rs :=
 ⟨hc.1, fun j c hj => let ⟨r, h1, h2, h3⟩ := hc.2 j c hj; ⟨r, h1, h2.evo h, h3⟩⟩
theorem WR.evo {w w' : World} {i i' : Nat → Nat × Nat} {m m' : List Blk} (h : Evo w i m w' i' m') {v : V} {r : Value} (hc : WR w i m v r) : WR w' i' m' v r := by
 cases hc with
 | c hc => exact .c (hc.evo h)
 | agg hc => exact .agg (hc.evo h)
theorem VR.evo {w w' : World} {i i' : Nat → Nat × Nat} {m m' : List Blk} (h : Evo w i m w' i' m') {v : V} {r : Value} (hc : VR w i m v r) : VR w' i' m' v r := by
 cases hc with
 | one hc => exact .one (hc.evo h)
 | tup hl hh => exact .tup hl fun j v hj => let ⟨r, h1, h2⟩ := hh j v hj; ⟨r, h1, h2.evo h⟩
structure Fr (w : World) (i : Nat → Nat × Nat) (m : List Blk) (w' : World) : Prop where
 os : w'.os = w.os
 tape : w'.tape = w.tape
 output : w'.output = w.output
 size : w.heap.size ≤ w'.heap.size
 blk : ∀ g, g < w.heap.size → (∀ b blk, m[b]? = some blk → blk.own = true → (i b).1 ≠ g) → w'.heap[g]? = w.heap[g]?
theorem Fr.of_below {w w' : World} {i : Nat → Nat × Nat} {m : List Blk} (h : Below w.heap.size w w') : Fr w i m w' := ⟨h.os, h.tape, h.output, h.size, fun g hg _ => h.block g hg⟩
theorem Fr.refl (w : World) (i : Nat → Nat × Nat) (m : List Blk) : Fr w i m w := Fr.of_below (Below.refl _ _)
def Fresh (w : World) (i : Nat → Nat × Nat) (m : List Blk) (i' : Nat → Nat × Nat) (m' : List Blk) : Prop :=
 ∀ b blk, m'[b]? = some blk → blk.own = true → (i' b).1 < w.heap.size → ∃ b' blk', m[b']? = some blk' ∧ blk'.own = true ∧ (i b').1 = (i' b).1
theorem Fresh.refl (w : World) (i : Nat → Nat × Nat) (m : List Blk) : Fresh w i m i m := fun b blk h ho _ => ⟨b, blk, h, ho, rfl⟩
theorem Fresh.trans {w w' : World} {i i' i'' : Nat → Nat × Nat} {m m' m'' : List Blk} (hs : w.heap.size ≤ w'.heap.size) (h : Fresh w i m i' m') (k : Fresh w' i' m' i'' m'') : Fresh w i m i'' m'' := by
 intro b blk hb ho hl
 obtain ⟨b1, blk1, h1, h2, h3⟩ := k b blk hb ho (by omega)
 obtain ⟨b2, blk2, g1, g2, g3⟩ := h b1 blk1 h1 h2 (by omega)
 exact ⟨b2, blk2, g1, g2, by omega⟩
theorem Fr.trans {w w' w'' : World} {i i' : Nat → Nat × Nat} {m m' : List Blk} (h : Fr w i m w') (hf : Fresh w i m i' m') (k : Fr w' i' m' w'') : Fr w i m w'' :=
 ⟨k.os.trans h.os, k.tape.trans h.tape, k.output.trans h.output, Nat.le_trans h.size k.size, fun g hg hn => by
  refine (k.blk g (Nat.lt_of_lt_of_le hg h.size) fun b blk hb ho e => ?_).trans (h.blk g hg hn)
  obtain ⟨b', blk', h1, h2, h3⟩ := hf b blk hb ho (by omega)
  exact hn b' blk' h1 h2 (by omega)⟩
theorem sizeAt_below {w w' : World} (h : Below w.heap.size w w') {g : Nat} {n : Nat} (hs : sizeAt w g = some n) : sizeAt w' g = some n := by
 unfold sizeAt at *
 by_cases hg : g < w.heap.size
 ·rw [h.block g hg]; exact hs
 ·have : w.heap[g]? = none := by simp; omega
  rw [this] at hs; cases hs
theorem CR.below {w w' : World} (h : Below w.heap.size w w') {i : Nat → Nat × Nat} {m : List Blk} {c : C} {r : Value} (hc : CR w i m c r) : CR w' i m c r := by
 cases hc with
 | junk => exact .junk _
 | undef => exact .undef
 | bool => exact .bool _
 | int => exact .int _ _
 | str => exact .str _
 | nilp => exact .nilp
 | nils => exact .nils
 | fn => exact .fn _
 | clo => exact .clo _ _
 | flat _ hv => exact .flat _ hv
 | ptr h0 hb ht ha hv => exact .ptr h0 hb ht ha hv
 | clp f h0 hb ht ha hv => exact .clp f h0 hb ht ha hv
 | sl h0 hb ht ha hv =>
  refine .sl h0 hb ht ha fun e => ?_
  obtain ⟨ad, cap, e1, e5, e2, e3, e4⟩ := hv e
  exact ⟨ad, cap, e1, e5, e2, e3, fun hz ho => sizeAt_below h (e4 hz ho)⟩
theorem AR.below {w w' : World} (h : Below w.heap.size w w') {i : Nat → Nat × Nat} {m : List Blk} {cs : List C} {rs : List Value} (hc : AR w i m cs rs) : AR w' i m cs rs :=
 ⟨hc.1, fun j c hj => let ⟨r, h1, h2, h3⟩ := hc.2 j c hj; ⟨r, h1, h2.below h, h3⟩⟩
theorem WR.below {w w' : World} (h : Below w.heap.size w w') {i : Nat → Nat × Nat} {m : List Blk} {v : V} {r : Value} (hc : WR w i m v r) : WR w' i m v r := by
 cases hc with
 | c hc => exact .c (hc.below h)
 | agg hc => exact .agg (hc.below h)
theorem VR.below {w w' : World} (h : Below w.heap.size w w') {i : Nat → Nat × Nat} {m : List Blk} {v : V} {r : Value} (hc : VR w i m v r) : VR w' i m v r := by
 cases hc with
 | one hc => exact .one (hc.below h)
 | tup hl hh => exact .tup hl fun j v hj => let ⟨r, h1, h2⟩ := hh j v hj; ⟨r, h1, h2.below h⟩
theorem Sim.below {base : Nat} {w w' : World} (h : Below w.heap.size w w') {i : Nat → Nat × Nat} {m : List Blk} (s : Sim base w i m) : Sim base w' i m where
 le := Nat.le_trans s.le h.size
 own b blk hb ho := by
  obtain ⟨h1, h2, rc, h3, h4, h5⟩ := s.own b blk hb ho
  have hg : (i b).1 < w.heap.size := (Array.getElem?_eq_some_iff.1 h3).1
  refine ⟨h1, h2, rc, (h.block _ hg).trans h3, h4, fun j c hj => ?_⟩
  obtain ⟨r, g1, g2, g3⟩ := h5 j c hj
  exact ⟨r, g1, g2.below h, g3⟩
 ro b blk hb ho hz := by
  obtain ⟨h1, h2⟩ := s.ro b blk hb ho hz
  refine ⟨h1, fun j c hj => ?_⟩
  obtain ⟨r, g1, g2, g3⟩ := h2 j c hj
  exact ⟨r, (h.cell (p := atA i b j) (Nat.lt_of_lt_of_le (h1 fun e => by rw [e] at hj; cases hj) s.le)).trans g1, g2.below h, g3⟩
 non := s.non
 inj := s.inj
theorem Evo.below {w w' : World} (h : Below w.heap.size w w') {base : Nat} {i : Nat → Nat × Nat} {m : List Blk} (s : Sim base w i m) : Evo w i m w' i m := by
 intro b blk hb
 refine ⟨blk, hb, fun ha => ⟨rfl, rfl, Nat.le_refl _, fun _ => ⟨rfl, fun hz => ?_⟩⟩⟩
 cases ho : blk.own with
 | true =>
  obtain ⟨h1, h2, rc, h3, _⟩ := s.own b blk hb ho
  have hg : (i b).1 < w.heap.size := (Array.getElem?_eq_some_iff.1 h3).1
  unfold sizeAt
  rw [h.block _ hg]
 | false =>
  rcases ha.or with ha | ha
  ·rw [ho] at ha; cases ha
  ·omega
theorem add_atA (i : Nat → Nat × Nat) (b off j : Nat) : (atA i b off).add j = atA i b (off + j) := by
 unfold atA Addr.add
 split
 ·simp_all
 ·simp [Nat.add_assoc]
theorem Sim.cell {base : Nat} {w : World} {i : Nat → Nat × Nat} {m : List Blk} (s : Sim base w i m) {b : Nat} {blk : Blk} (hb : m[b]? = some blk) {j : Nat} {c : C} (hj : blk.cs[j]? = some c) :
  ∃ r, w.cell? (atA i b j) = some r ∧ CR w i m c r ∧ r.oneCell' = true := by
 cases ho : blk.own with
 | true =>
  obtain ⟨h1, h2, rc, h3, h4, h5⟩ := s.own b blk hb ho
  obtain ⟨r, g1, g2, g3⟩ := h5 j c hj
  refine ⟨r, ?_, g2, g3⟩
  simp only [World.cell?, atA, h2, Nat.zero_add, h3]
  simpa using g1
 | false =>
  by_cases hz : blk.esz = 0
  ·exact (s.ro b blk hb ho hz).2 j c hj
  ·rw [s.non b blk hb ho hz] at hj; cases hj
theorem Sim.block_lt {base : Nat} {w : World} {i : Nat → Nat × Nat} {m : List Blk} (s : Sim base w i m) {b : Nat} {blk : Blk} (hb : m[b]? = some blk) (ha : blk.alive) (hne : blk.own = true ∨ blk.cs ≠ []) : (i b).1 < w.heap.size := by
 cases ho : blk.own with
 | true =>
  obtain ⟨h1, h2, rc, h3, h4, h5⟩ := s.own b blk hb ho
  exact (Array.getElem?_eq_some_iff.1 h3).1
 | false =>
  rcases ha.or with ha | ha
  ·rw [ho] at ha; cases ha
  ·exact Nat.lt_of_lt_of_le ((s.ro b blk hb ho ha).1 (hne.resolve_left (by simp [ho]))) s.le
theorem Sim.cells {base : Nat} {w : World} {i : Nat → Nat × Nat} {m : List Blk} (s : Sim base w i m) {b : Nat} {blk : Blk} (hb : m[b]? = some blk) (off n : Nat) (hn : off + n ≤ blk.cs.length) :
  ∃ rs : List Value, AR w i m ((blk.cs.drop off).take n) rs ∧ ∀ j v, rs[j]? = some v → w.cell? ((atA i b off).add j) = some v := by
 induction n with
 | zero => exact ⟨[], ⟨by simp, by simp⟩, by simp⟩
 | succ n ih =>
  obtain ⟨rs, ⟨h1, h2⟩, h3⟩ := ih (by omega)
  have hl : off + n < blk.cs.length := by omega
  obtain ⟨r, g1, g2, g3⟩ := s.cell hb (j := off + n) (c := blk.cs[off + n]) (by simp)
  have hlen : rs.length = n := by rw [← h1]; simp; omega
  have ht : (blk.cs.drop off).take (n + 1) = (blk.cs.drop off).take n ++ [blk.cs[off + n]] := by
   rw [List.take_succ_eq_append_getElem (by simp; omega)]
   simp
  refine ⟨rs ++ [r], ⟨by rw [ht]; simp [h1], fun j c hj => ?_⟩, fun j v hj => ?_⟩
  ·rw [ht] at hj
   have hl' : ((blk.cs.drop off).take n).length = n := by simp; omega
   rcases Nat.lt_or_ge j n with h | h
   ·rw [List.getElem?_append_left (by omega)] at hj
    rw [List.getElem?_append_left (by omega)]
    exact h2 j c hj
   ·rw [List.getElem?_append_right (by omega), hl'] at hj
    rw [List.getElem?_append_right (by omega), hlen]
    rcases Nat.eq_zero_or_pos (j - n) with h0 | h0
    ·rw [h0] at hj ⊢
     simp at hj
     subst hj
     exact ⟨r, rfl, g2, g3⟩
    ·rw [List.getElem?_eq_none (by simp; omega)] at hj
     cases hj
  ·rcases Nat.lt_or_ge j n with h | h
   ·rw [List.getElem?_append_left (by omega)] at hj
    exact h3 j v hj
   ·rw [List.getElem?_append_right (by omega), hlen] at hj
    rcases Nat.eq_zero_or_pos (j - n) with h0 | h0
    ·rw [h0] at hj
     simp at hj
     subst hj
     have : j = n := by omega
     subst this
     rw [add_atA]
     exact g1
    ·rw [List.getElem?_eq_none (by simp; omega)] at hj
     cases hj
end Go.Proofs.YtfbeplbcaanimaaGreat
set_option linter.unusedVariables false
namespace Go.Proofs.YtfbeplbcaanimaaGreat
noncomputable section
inductive Opd where
 | t (i : Nat) | k (v : V)
inductive I where
 | mov (x : Opd) | pick (c a b : Opd)
 | load1 (a : Opd) | loadN (a : Opd) (n : Nat)
 | fld (a : Opd) (off : Nat)
 | ixa (a i : Opd) (len esz : Nat) | ixs (s i : Opd) (esz : Nat)
 | ext (x : Opd) (k : Nat)
 | bin (op : BinOp) (x y : Opd) | binb (ne : Bool) (x y : Opd) | bins (op : BinOp) (x y : Opd) | un (op : UnOp) (x : Opd)
 | eqa (ne : Bool) (ks : List (Option IntKind)) (x y : Opd)
 | nil (ne : Bool) (x : Opd)
 | len (x : Opd) | lens (x : Opd)
 | sla (a : Opd) (n esz : Nat) (lo hi : Option Opd) | sls (s : Opd) (esz : Nat) (lo hi : Option Opd)
 | bld (z : List C) (parts : List (Nat × Nat × Opd))
 | prt (x : Opd) (off n : Nat) (ag : Bool)
 | mxi (lo : Bool) (x y : Opd)
 | idx (x i : Opd) (len n : Nat) (ag : Bool) | idxs (x i : Opd) | chk (x : Opd) | cvt (k : IntKind) (x : Opd) | shf (op : BinOp) (x y : Opd)
 | call (f : FuncId) (args : List Opd) | callv (x : Opd) (args : List Opd) | mkc (f : FuncId) (args : List Opd)
 | bad | clr (x : Opd) (z : C)
 | alloc (z : List C) (ty : TypeId) | box (x : Opd) (ty : TypeId)
 | store (a x : Opd) (n : Nat)
 | mks (n : Opd) (z : List C) (ty : TypeId) (bytes : Nat)
 | lit (n esz : Nat) (z : List C) (parts : List (Nat × Opd)) (ty : TypeId)
 | app (s x : Opd) (ty : TypeId) (esz bytes : Nat)
structure IOp where
 dst : Option Nat
 gd : Option (Nat × Bool)
 i : I
structure EOp where
 op : IOp
 ix : Nat
 p : Nat
 ml : Bool
 un : List Nat
inductive IC where
 | skip | reg (draw : Bool) (ops : List IOp) | regE (k : Nat) (ops : List EOp) | seq (a b : IC) | cond (c : Opd) (a b : IC)
 | block (id : Nat) (keep after : Option (List Nat)) (b : IC) | loop (b : IC) | exit (id : Nat) | ret (keep : Option (List Nat))
inductive IR where
 | t (i : Nat) | cell (i n : Nat) (ag : Bool)
structure IFn where
 nt : Nat
 res : List IR
 body : IC
structure St where
 env : List (Nat × V)
 mem : List Blk
 esc : Nat
 wr : Nat
structure Ret where
 v : V
 mem : List Blk
 esc : Nat
 wr : Nat
inductive Ex where
 | norm | exit (id : Nat) | ret
def get : List (Nat × V) → Nat → V
 | [], _ => .c .junk
 | (j, v) :: r, i => if j = i then v else get r i
def Opd.ev (env : List (Nat × V)) : Opd → V
 | .t i => get env i
 | .k v => v
def V.int? : V → Option Int
 | .c (.int _ n) => some n
 | _ => none
def V.bool? : V → Option Bool
 | .c (.bool b) => some b
 | _ => none
def C.firm : C → Bool
 | .junk | .undef => false
 | _ => true
def V.cells? : V → Option (List C)
 | .c x => if x.firm then some [x] else none
 | .agg cs => some cs
 | .tup _ => none
def guard' {α : Type} (c : Prop) [Decidable c] (x : Option α) : Option α := if c then x else none
def live (m : List Blk) (b tot : Nat) : Option Blk := (m[b]?).bind fun blk => if tot = blk.cs.length then some blk else none
def binI (op : BinOp) (k : IntKind) (a b : Int) : Option V :=
 match op with
 | .add => some (.c (.int k (k.wrap (a + b))))
 | .sub => some (.c (.int k (k.wrap (a - b))))
 | .mul => some (.c (.int k (k.wrap (a * b))))
 | .quo => if b = 0 then none else some (.c (.int k (k.wrap (a.tdiv b))))
 | .rem => if b = 0 then none else some (.c (.int k (a.tmod b)))
 | .eql => some (.c (.bool (a == b)))
 | .neq => some (.c (.bool (a != b)))
 | .lss => some (.c (.bool (decide (a < b))))
 | .leq => some (.c (.bool (decide (a ≤ b))))
 | .gtr => some (.c (.bool (decide (a > b))))
 | .geq => some (.c (.bool (decide (a ≥ b))))
 | .and => some (.c (.int k (k.wrap (BitVec.ofInt k.bits a &&& BitVec.ofInt k.bits b).toNat)))
 | .or => some (.c (.int k (k.wrap (BitVec.ofInt k.bits a ||| BitVec.ofInt k.bits b).toNat)))
 | .xor => some (.c (.int k (k.wrap (BitVec.ofInt k.bits a ^^^ BitVec.ofInt k.bits b).toNat)))
 | _ => none
def bin' (op : BinOp) : V → V → Option V
 | .c (.int k a), .c (.int k' b) => if k = k' then binI op k a b else none
 | _, _ => none
def binS (op : BinOp) (a b : ByteArray) : Option V :=
 match op with
 | .add => if ((a.size + b.size : Nat) : Int) ≤ 140737488355328 then some (.c (.str (a ++ b))) else none
 | .eql => some (.c (.bool (a.toList == b.toList)))
 | .neq => some (.c (.bool (!(a.toList == b.toList))))
 | .lss => some (.c (.bool (Op.bytesLess a.toList b.toList)))
 | _ => none
def un' (op : UnOp) : V → Option V
 | .c (.bool a) => match op with | .not => some (.c (.bool (!a))) | _ => none
 | .c (.int k a) => match op with | .neg => some (.c (.int k (k.wrap (0 - a)))) | _ => none
 | _ => none
def eqC : Option IntKind → C → C → Option Bool
 | some kd, .int k a, .int k' b => if k = kd ∧ k' = kd then some (a == b) else none
 | none, .bool a, .bool b => some (a == b)
 | _, _, _ => none
def eqL : List (Option IntKind) → List C → List C → Option Bool
 | [], [], [] => some true
 | k :: ks, a :: r, b :: s => (eqC k a b).bind fun t => (eqL ks r s).bind fun u => some (t && u)
 | _, _, _ => none
def lo' (env : List (Nat × V)) : Option Opd → Option Int
 | none => some 0
 | some x => (x.ev env).int?
def hi' (env : List (Nat × V)) (n : Nat) : Option Opd → Option Int
 | none => some n
 | some x => (x.ev env).int?
def lay (cs : List C) (off : Nat) (new : List C) : List C := cs.take off ++ new ++ cs.drop (off + new.length)
def layAll (env : List (Nat × V)) : List C → List (Nat × Nat × Opd) → Option (List C)
 | cs, [] => some cs
 | cs, (off, n, x) :: r => (x.ev env).cells?.bind fun new => if new.length = n ∧ off + n ≤ cs.length then layAll env (lay cs off new) r else none
def capt : List V → Option (List (IntKind × Int))
 | [] => some []
 | .c (.int k n) :: r => (capt r).bind fun l => some ((k, n) :: l)
 | _ :: _ => none
def mkcV (f : FuncId) : List V → Option V
 | [.c (.ptr b off tot)] => some (.c (.clp f b off tot))
 | l => (capt l).bind fun ns => some (.c (.clo f ns))
def capV (ns : List (IntKind × Int)) : List V := ns.map fun p => .c (.int p.1 p.2)
def stepQ (env : List (Nat × V)) (m : List Blk) : I → Option V
 | .mov x => some (x.ev env)
 | .pick c a b => (c.ev env).bool?.bind fun t => some (if t then a.ev env else b.ev env)
 | .load1 a => match a.ev env with
  | .c (.ptr b off tot) => (live m b tot).bind fun blk => (blk.cs[off]?).bind fun c => some (.c c)
  | _ => none
 | .loadN a n => match a.ev env with
  | .c (.ptr b off tot) => (live m b tot).bind fun blk => guard' (off + n ≤ blk.cs.length) (some (.agg ((blk.cs.drop off).take n)))
  | _ => none
 | .fld a off => match a.ev env with
  | .c (.ptr b o tot) => (live m b tot).bind fun _ => some (.c (.ptr b (o + off) tot))
  | _ => none
 | .ixa a i len esz => match a.ev env, i.ev env with
  | .c (.ptr b o tot), .c (.int _ n) => (live m b tot).bind fun _ => guard' (0 ≤ n ∧ n < len) (some (.c (.ptr b (o + n.toNat * esz) tot)))
  | _, _ => none
 | .ixs s i esz => match s.ev env, i.ev env with
  | .c (.sl b o len tot), .c (.int _ n) => (live m b tot).bind fun _ => guard' (0 ≤ n ∧ n < len) (some (.c (.ptr b (o + n.toNat * esz) tot)))
  | _, _ => none
 | .ext x k => match x.ev env with
  | .tup vs => vs[k]?
  | _ => none
 | .bin op x y => bin' op (x.ev env) (y.ev env)
 | .binb ne x y => match x.ev env, y.ev env with
  | .c (.bool a), .c (.bool b) => some (.c (.bool (if ne then !(a == b) else a == b)))
  | _, _ => none
 | .bins op x y => match x.ev env, y.ev env with
  | .c (.str a), .c (.str b) => binS op a b
  | _, _ => none
 | .un op x => un' op (x.ev env)
 | .eqa ne ks x y => match x.ev env, y.ev env with
  | .agg a, .agg b => (eqL ks a b).bind fun t => some (.c (.bool (if ne then !t else t)))
  | _, _ => none
 | .nil ne x => match x.ev env with
  | .c .nils => some (.c (.bool (!ne)))
  | .c (.sl b _ _ tot) => (live m b tot).bind fun _ => some (.c (.bool ne))
  | _ => none
 | .len x => match x.ev env with
  | .c .nils => some (.c (.int .i64 0))
  | .c (.sl b _ n tot) => (live m b tot).bind fun _ => some (.c (.int .i64 n))
  | _ => none
 | .lens x => match x.ev env with
  | .c (.str s) => some (.c (.int .i64 s.size))
  | _ => none
 | .sla a n esz lo hi => match a.ev env with
  | .c (.ptr b o tot) => (live m b tot).bind fun blk => guard' (blk.esz = 0 ∧ n ≤ 4294967296) ((lo' env lo).bind fun l => (hi' env n hi).bind fun h => guard' (0 ≤ l ∧ l ≤ h ∧ h ≤ n ∧ l < n) (some (.c (.sl b (o + l.toNat * esz) (h - l).toNat tot))))
  | _ => none
 | .sls s esz lo hi => match s.ev env with
  | .c (.sl b o len tot) => (live m b tot).bind fun blk => guard' (blk.esz = 0 ∨ esz = blk.esz) ((lo' env lo).bind fun l => (hi' env len hi).bind fun h => guard' (0 ≤ l ∧ l ≤ h ∧ h ≤ len) (some (.c (.sl b (o + l.toNat * esz) (h - l).toNat tot))))
  | .c .nils => (lo' env lo).bind fun l => (hi' env 0 hi).bind fun h => guard' (l = 0 ∧ h = 0) (some (.c .nils))
  | _ => none
 | .bld z ps => (layAll env z ps).bind fun cs => some (.agg cs)
 | .prt x off n ag => match x.ev env with
  | .agg cs => if off + n ≤ cs.length then (if ag then some (.agg ((cs.drop off).take n)) else (cs[off]?).bind fun c => some (.c c)) else none
  | _ => none
 | .idx x i len n ag => match x.ev env, i.ev env with
  | .agg cs, .c (.int _ q) => if 0 ≤ q ∧ q < len ∧ q.toNat * n + n ≤ cs.length then (if ag then some (.agg ((cs.drop (q.toNat * n)).take n)) else (cs[q.toNat * n]?).bind fun c => some (.c c)) else none
  | _, _ => none
 | .idxs x i => match x.ev env, i.ev env with
  | .c (.str s), .c (.int _ q) => if 0 ≤ q then (s[q.toNat]?).bind fun b => some (.c (.int .u8 b.toNat)) else none
  | _, _ => none
 | .chk x => match x.ev env with
  | .c (.ptr b off tot) => (live m b tot).bind fun _ => some (.c (.ptr b off tot))
  | _ => none
 | .cvt k x => match x.ev env with
  | .c (.int _ n) => some (.c (.int k (k.wrap n)))
  | _ => none
 | .shf op x y => match x.ev env, y.ev env with
  | .c (.int k a), .c (.int _ b) => if b < 0 then none else match op with
   | .shl => some (.c (.int k (k.wrap (a * 2 ^ (min b.toNat k.bits)))))
   | .shr => some (.c (.int k (a.fdiv (2 ^ (min b.toNat k.bits)))))
   | _ => none
  | _, _ => none
 | .mxi lo x y => match x.ev env, y.ev env with
  | .c (.int k a), .c (.int k' b) => if k = k' then some (.c (.int k (if lo then (if a ≤ b then a else b) else (if a ≤ b then b else a)))) else none
  | _, _ => none
 | .mkc f l => mkcV f (l.map (·.ev env))
 | _ => none
def wrt (st : St) (n0 b off tot : Nat) (cs : List C) : Option St :=
 (live st.mem b tot).bind fun blk => guard' (blk.own = true ∧ off + cs.length ≤ blk.cs.length)
  (some { st with mem := st.mem.set b { blk with cs := lay blk.cs off cs }, esc := mx st.esc (refsL cs), wr := mx st.wr (n0 - b) })
def src (env : List (Nat × V)) (m : List Blk) (esz : Nat) (x : Opd) : Option (Nat × List C) :=
 match x.ev env with
 | .c .nils => some (0, [])
 | .c (.sl b off n tot) => (live m b tot).bind fun blk => guard' (off + n * esz ≤ blk.cs.length) (some (n, (blk.cs.drop off).take (n * esz)))
 | _ => none
def rep (n : Nat) (z : List C) : List C := (List.replicate n z).flatten
def stepL (call : FuncId → List V → List Blk → Option Ret) (n0 : Nat) (st : St) : I → Option (V × St)
 | .alloc z ty => some (.c (.ptr st.mem.length 0 z.length), { st with mem := st.mem ++ [⟨z, ty, 0, true⟩], esc := mx st.esc (refsL z) })
 | .box x ty => (x.ev st.env).cells?.bind fun z => some (.c (.ptr st.mem.length 0 z.length), { st with mem := st.mem ++ [⟨z, ty, 0, true⟩], esc := mx st.esc (refsL z) })
 | .store a x n => match a.ev st.env with
  | .c (.ptr b off tot) => (x.ev st.env).cells?.bind fun cs => guard' (cs.length = n) ((wrt st n0 b off tot cs).bind fun st' => some (.c .undef, st'))
  | _ => none
 | .mks n z ty bytes => (n.ev st.env).int?.bind fun l => guard' (0 ≤ l ∧ l * bytes ≤ 140737488355328 ∧ 0 < bytes ∧ 0 < z.length)
   (some (.c (.sl st.mem.length 0 l.toNat (l.toNat * z.length)), { st with mem := st.mem ++ [⟨rep l.toNat z, ty, z.length, true⟩], esc := mx st.esc (refsL z) }))
 | .lit n esz z ps ty => guard' (n * esz ≤ 16777216 ∧ z.length = esz ∧ 0 < esz) ((layAll st.env (rep n z) (ps.map fun (i, x) => (i * esz, esz, x))).bind fun cs =>
   guard' (cs.length = n * esz) (some (.c (.sl st.mem.length 0 n (n * esz)), { st with mem := st.mem ++ [⟨cs, ty, esz, true⟩], esc := mx st.esc (refsL cs) })))
 | .call f args => (call f (args.map (·.ev st.env)) st.mem).bind fun r => some (r.v, { st with mem := r.mem, esc := mx st.esc r.esc, wr := mx st.wr (r.wr - (st.mem.length - n0)) })
 | .app s x ty esz bytes => (src st.env st.mem esz x).bind fun p => match s.ev st.env with
  | .c .nils => if p.1 = 0 then some (.c .nils, st) else guard' (p.1 * bytes ≤ 140737488355328 ∧ 0 < esz ∧ 0 < bytes)
    (some (.c (.sl st.mem.length 0 p.1 (p.1 * esz)), { st with mem := st.mem ++ [⟨p.2, ty, esz, true⟩], esc := mx st.esc (refsL p.2) }))
  | .c (.sl b off len tot) => (live st.mem b tot).bind fun blk => guard' (blk.own = true ∧ blk.esz = esz ∧ 0 < esz ∧ blk.ty = ty ∧ off = 0 ∧ tot = len * esz ∧ (len + p.1) * bytes ≤ 140737488355328 ∧ 0 < bytes)
    (some (.c (.sl b 0 (len + p.1) (tot + p.1 * esz)), { st with mem := st.mem.set b { blk with cs := blk.cs ++ p.2 }, esc := mx st.esc (refsL p.2), wr := mx st.wr (n0 - b) }))
  | _ => none
 | .callv x args => match x.ev st.env with
  | .c (.fn f) => (call f (args.map (·.ev st.env)) st.mem).bind fun r => some (r.v, { st with mem := r.mem, esc := mx st.esc r.esc, wr := mx st.wr (r.wr - (st.mem.length - n0)) })
  | .c (.clo f ns) => (call f (args.map (·.ev st.env) ++ capV ns) st.mem).bind fun r => some (r.v, { st with mem := r.mem, esc := mx st.esc r.esc, wr := mx st.wr (r.wr - (st.mem.length - n0)) })
  | .c (.clp f b off tot) => (call f (args.map (·.ev st.env) ++ [.c (.ptr b off tot)]) st.mem).bind fun r => some (r.v, { st with mem := r.mem, esc := mx st.esc r.esc, wr := mx st.wr (r.wr - (st.mem.length - n0)) })
  | _ => none
 | .clr x z => match x.ev st.env with
  | .c .nils => some (.c .undef, st)
  | .c (.sl b off n tot) => (live st.mem b tot).bind fun _ => if n = 0 then some (.c .undef, st) else (wrt st n0 b off tot (rep n [z])).bind fun st' => some (.c .undef, st')
  | _ => none
 | i => (stepQ st.env st.mem i).bind fun v => some (v, st)
def put (dst : Option Nat) (v : V) (st : St) : St := match dst with | none => st | some d => { st with env := (d, v) :: st.env }
def want {α : Type} (env : List (Nat × V)) (gd : Option (Nat × Bool)) (yes no : List (Nat × V) → Option α) : Option α :=
 match gd with
 | none => yes env
 | some (t, b) => match get env t with
  | .c (.bool x) => if x = b then yes ((t, .c (.bool b)) :: env) else no ((t, .c (.bool (!b))) :: env)
  | .c .undef => no env
  | _ => none
def execOps (call : FuncId → List V → List Blk → Option Ret) (n0 : Nat) : List IOp → St → Option St
 | [], st => some st
 | o :: r, st => want st.env o.gd
   (fun env => (stepL call n0 { st with env := env } o.i).bind fun p => execOps call n0 r (put o.dst p.1 p.2))
   (fun env => execOps call n0 r (put o.dst (.c .undef) { st with env := env }))
def C.hard : C → Bool
 | .bool _ | .int _ _ | .str _ | .nilp | .nils | .fn _ | .clo _ _ => true
 | _ => false
def V.hard : V → Bool
 | .c x => x.hard
 | .agg cs => cs.all (·.hard)
 | .tup vs => vs.all fun | .c x => x.hard | .agg cs => cs.all (·.hard) | _ => false
def stepD (call : FuncId → List V → List Blk → Option Ret) (env : List (Nat × V)) (m : List Blk) : I → Option V
 | .call f args => (call f (args.map (·.ev env)) m).bind fun r => if r.wr = 0 ∧ r.mem.length = m.length ∧ r.v.hard = true then some r.v else none
 | .callv x args => match x.ev env with
  | .c (.fn f) => (call f (args.map (·.ev env)) m).bind fun r => if r.wr = 0 ∧ r.mem.length = m.length ∧ r.v.hard = true then some r.v else none
  | .c (.clo f ns) => (call f (args.map (·.ev env) ++ capV ns) m).bind fun r => if r.wr = 0 ∧ r.mem.length = m.length ∧ r.v.hard = true then some r.v else none
  | _ => none
 | i => stepQ env m i
def execD (call : FuncId → List V → List Blk → Option Ret) (m : List Blk) : List IOp → List (Nat × V) → Option (List (Nat × V))
 | [], env => some env
 | o :: r, env => match o.dst with
  | none => none
  | some d => want env o.gd
   (fun env => (stepD call env m o.i).bind fun v => execD call m r ((d, v) :: env))
   (fun env => execD call m r ((d, .c .undef) :: env))
def I.opds : I → List Opd
 | .mov x => [x] | .pick c a b => [c, a, b]
 | .load1 a => [a] | .loadN a _ => [a] | .fld a _ => [a]
 | .ixa a i _ _ => [a, i] | .ixs a i _ => [a, i]
 | .ext x _ => [x]
 | .bin _ x y => [x, y] | .binb _ x y => [x, y] | .bins _ x y => [x, y]
 | .un _ x => [x]
 | .eqa _ _ x y => [x, y]
 | .nil _ x => [x] | .len x => [x] | .lens x => [x]
 | .sla a _ _ lo hi => a :: (lo.toList ++ hi.toList) | .sls a _ lo hi => a :: (lo.toList ++ hi.toList)
 | .bld _ ps => ps.map (·.2.2)
 | .prt x _ _ _ => [x]
 | .mxi _ x y => [x, y]
 | .idx x i _ _ _ => [x, i] | .idxs x i => [x, i]
 | .chk x => [x] | .cvt _ x => [x]
 | .shf _ x y => [x, y]
 | .call _ l => l
 | .callv x l => x :: l
 | .mkc _ l => l
 | .bad => []
 | .clr x _ => [x]
 | .alloc _ _ => []
 | .box x _ => [x]
 | .store a x _ => [a, x]
 | .mks n _ _ _ => [n]
 | .lit _ _ _ ps _ => ps.map (·.2)
 | .app s x _ _ _ => [s, x]
def I.cls : I → Nat
 | .load1 _ | .loadN _ _ | .fld _ _ | .ixa _ _ _ _ | .ixs _ _ _ | .nil _ _ | .len _ | .sla _ _ _ _ _ | .sls _ _ _ _ | .chk _ => 1
 | .alloc _ _ | .box _ _ | .store _ _ _ | .mks _ _ _ _ | .lit _ _ _ _ _ | .app _ _ _ _ _ => 2
 | .call _ _ | .callv _ _ | .clr _ _ => 3
 | _ => 0
def I.makes : I → Bool
 | .alloc _ _ | .box _ _ | .mks _ _ _ _ | .lit _ _ _ _ _ => true
 | _ => false
def EOp.cls (o : EOp) : Nat := if o.ml = true ∧ o.op.i.cls = 3 then 0 else o.op.i.cls
structure Foot where
 sr : List Nat
 cr : List (Nat × Nat × Nat)
 cw : List (Nat × Nat × Nat)
 sw : List Nat
def far (x y : Nat × Nat × Nat) : Bool := decide (x.1 ≠ y.1 ∨ x.2.1 + x.2.2 ≤ y.2.1 ∨ y.2.1 + y.2.2 ≤ x.2.1)
def Foot.fits (f g : Foot) : Bool :=
 (f.sw.all fun b => g.sr.all (fun c => decide (b ≠ c)) && g.sw.all (fun c => decide (b ≠ c))) && (g.sw.all fun b => f.sr.all (fun c => decide (b ≠ c))) &&
 (f.cw.all fun x => g.cw.all (far x) && g.cr.all (far x)) && (g.cw.all fun x => f.cr.all (far x))
def V.blk : V → List Nat
 | .c (.ptr b _ _) => [b]
 | .c (.sl b _ _ _) => [b]
 | _ => []
def V.rng (n : Nat) : V → List (Nat × Nat × Nat)
 | .c (.ptr b o _) => [(b, o, n)]
 | _ => []
def V.srng (esz : Nat) : V → List (Nat × Nat × Nat)
 | .c (.sl b o n _) => [(b, o, n * esz)]
 | _ => []
def foot (env : List (Nat × V)) (q : Nat) : I → Foot
 | .load1 a => ⟨(a.ev env).blk, (a.ev env).rng 1, [], []⟩
 | .loadN a n => ⟨(a.ev env).blk, (a.ev env).rng n, [], []⟩
 | .fld a _ => ⟨(a.ev env).blk, [], [], []⟩
 | .ixa a _ _ _ => ⟨(a.ev env).blk, [], [], []⟩
 | .ixs a _ _ => ⟨(a.ev env).blk, [], [], []⟩
 | .nil _ a => ⟨(a.ev env).blk, [], [], []⟩
 | .len a => ⟨(a.ev env).blk, [], [], []⟩
 | .chk a => ⟨(a.ev env).blk, [], [], []⟩
 | .sla a _ _ _ _ => ⟨(a.ev env).blk, [], [], []⟩
 | .sls a _ _ _ => ⟨(a.ev env).blk, [], [], []⟩
 | .store a _ n => ⟨(a.ev env).blk, [], (a.ev env).rng n, []⟩
 | .app s x _ esz _ => ⟨(s.ev env).blk ++ (x.ev env).blk, (x.ev env).srng esz, [], (s.ev env).blk⟩
 | .alloc _ _ => ⟨[], [], [], [q]⟩
 | .box _ _ => ⟨[], [], [], [q]⟩
 | .mks _ _ _ _ => ⟨[], [], [], [q]⟩
 | .lit _ _ _ _ _ => ⟨[], [], [], [q]⟩
 | _ => ⟨[], [], [], []⟩
def dead : Blk := ⟨[], 0, 1, false⟩
def isDead (m : List Blk) (q : Nat) : Bool := match m[q]? with
 | some ⟨[], _, 1, false⟩ => true
 | _ => false
def place (q : Nat) (st : St) (r : V × St) : Option (V × St) := match r.2.mem with
 | [blk] => match r.1 with
  | .c (.ptr _ o t) => guard' (isDead st.mem q = true ∧ refsL blk.cs ≤ st.mem.length) (some (.c (.ptr q o t), { st with mem := st.mem.set q blk, esc := r.2.esc }))
  | .c (.sl _ o l t) => guard' (isDead st.mem q = true ∧ refsL blk.cs ≤ st.mem.length) (some (.c (.sl q o l t), { st with mem := st.mem.set q blk, esc := r.2.esc }))
  | _ => none
 | _ => none
def nilApp (env : List (Nat × V)) : I → Bool
 | .app s x _ _ _ => match s.ev env with
  | .c .nils => match x.ev env with
   | .c .nils => false
   | .c (.sl _ _ 0 _) => false
   | _ => true
  | _ => false
 | _ => false
def pureC (st : St) (args : List V) (r : Ret) : Option (V × St) := if V.refsAll args = 0 ∧ r.wr = 0 ∧ r.mem = [] then some (r.v, st) else none
def stepE (call : FuncId → List V → List Blk → Option Ret) (n0 n : Nat) (o : EOp) (st : St) : Option (V × St) :=
 if o.op.i.makes then (stepL call n0 { st with mem := [] } o.op.i).bind (place (n + o.p) st)
 else if o.ml then match o.op.i with
  | .call f args => (call f (args.map (·.ev st.env)) []).bind (pureC st (args.map (·.ev st.env)))
  | .callv x args => match x.ev st.env with
   | .c (.fn f) => (call f (args.map (·.ev st.env)) []).bind (pureC st (args.map (·.ev st.env)))
   | _ => none
  | _ => none
 else if nilApp st.env o.op.i then none else stepL call n0 st o.op.i
def wantB (env : List (Nat × V)) : Option (Nat × Bool) → Option Bool
 | none => some true
 | some (t, b) => match get env t with
  | .c (.bool x) => some (x == b)
  | .c .undef => some false
  | _ => none
def stepG (call : FuncId → List V → List Blk → Option Ret) (n0 n : Nat) (o : EOp) (st : St) : Option (V × St × Foot) :=
 (wantB st.env o.op.gd).bind fun t => if t then (stepE call n0 n o st).bind fun r => some (r.1, r.2, foot st.env (n + o.p) o.op.i) else some (.c .undef, st, ⟨[], [], [], []⟩)
def okF (un : List Nat) (fs : List (Nat × Foot)) (F : Foot) : Bool := fs.all fun p => !(un.contains p.1) || p.2.fits F
def chkI : I → Bool → List Nat → Bool
 | .call _ _, false, _ :: _ => true
 | _, _, _ => false
def sameP (un : List Nat) (fs : List (Nat × Foot)) (m m2 : List Blk) : Prop := ∀ p ∈ fs, un.contains p.1 = true → ∀ b ∈ p.2.sr, m2[b]? = m[b]?
open Classical in
def sameK {α : Type} (chk : Bool) (un : List Nat) (fs : List (Nat × Foot)) (m m2 : List Blk) (x : Option α) : Option α := if chk = true ∧ ¬ sameP un fs m m2 then none else x
open Classical in
def chg (m m2 : List Blk) : List Nat := (List.range (mx m.length m2.length)).filter fun b => decide (m2[b]? ≠ m[b]?)
def callF (m m2 : List Blk) : Foot := ⟨[], [], [], chg m m2⟩
def recI (i : I) (ml : Bool) (m m2 : List Blk) (F : Foot) : Foot := if i.cls = 3 ∧ ml = false then callF m m2 else F
def execE (call : FuncId → List V → List Blk → Option Ret) (n0 n : Nat) : List EOp → List (Nat × Foot) → St → Option St
 | [], _, st => some st
 | o :: r, fs, st => (stepG call n0 n o st).bind fun q => if okF o.un fs q.2.2 = true then sameK (chkI o.op.i o.ml o.un) o.un fs st.mem q.2.1.mem (execE call n0 n r ((o.ix, recI o.op.i o.ml st.mem q.2.1.mem q.2.2) :: fs) (put o.op.dst q.1 q.2.1)) else none
def envRefs : List (Nat × V) → Nat
 | [] => 0
 | (_, v) :: r => mx v.refs (envRefs r)
def trim (n0 : Nat) : Option (List Nat) → St → St
 | none, st => st
 | some ks, st =>
  let env := ks.map fun k => (k, get st.env k)
  { st with env := env, mem := st.mem.take (mx n0 (mx st.esc (envRefs env))) }
def iter (f : St → Option (Ex × St)) (tr : St → St) : Nat → St → Option (Ex × St)
 | 0, _ => none
 | n + 1, st => (f (tr st)).bind fun p => match p.1 with
  | .norm => iter f tr n p.2
  | e => some (e, p.2)
def exec (call : FuncId → List V → List Blk → Option Ret) (L n0 : Nat) : Option (List Nat) → IC → St → Option (Ex × St)
 | _, .skip, st => some (.norm, st)
 | _, .reg false ops, st => (execOps call n0 ops st).bind fun st' => some (.norm, st')
 | _, .reg true ops, st => (execD call st.mem ops st.env).bind fun env => some (.norm, { st with env := env })
 | _, .regE k ops, st => (execE call n0 st.mem.length ops [] { st with mem := st.mem ++ List.replicate k dead }).bind fun st' => some (.norm, st')
 | kp, .seq a b, st => (exec call L n0 kp a st).bind fun p => match p.1 with
  | .norm => exec call L n0 kp b p.2
  | e => some (e, p.2)
 | kp, .cond c a b, st => (c.ev st.env).bool?.bind fun t => if t then exec call L n0 kp a st else exec call L n0 kp b st
 | _, .block id kp ka b, st => (exec call L n0 kp b st).bind fun p => match p.1 with
  | .exit j => if j = id then some (.norm, trim n0 ka p.2) else some (.exit j, p.2)
  | .norm => some (.norm, trim n0 ka p.2)
  | .ret => some (.ret, p.2)
 | kp, .loop b, st => iter (fun s => exec call L n0 none b s) (trim n0 kp) L st
 | _, .exit id, st => some (.exit id, st)
 | _, .ret ks, st => some (.ret, trim n0 ks st)
def C.own (n0 : Nat) : C → List Nat
 | .ptr b _ _ | .sl b _ _ _ | .clp _ b _ _ => if b < n0 then [] else [b]
 | _ => []
def V.own (n0 : Nat) : V → List Nat
 | .c x => x.own n0
 | .agg cs => cs.flatMap (·.own n0)
 | .tup vs => vs.flatMap fun | .c x => x.own n0 | .agg cs => cs.flatMap (·.own n0) | _ => []
def nub : List Nat → List Nat
 | [] => []
 | a :: r => a :: (nub r).filter fun x => !(x == a)
def pos (n0 : Nat) : List Nat → Nat → Nat
 | [], b => b
 | a :: r, b => if b = a then n0 else pos (n0 + 1) r b
def C.ren (f : Nat → Nat) : C → C
 | .ptr b o t => .ptr (f b) o t
 | .sl b o n t => .sl (f b) o n t
 | .clp g b o t => .clp g (f b) o t
 | c => c
def V.ren (f : Nat → Nat) : V → V
 | .c x => .c (x.ren f)
 | .agg cs => .agg (cs.map (·.ren f))
 | .tup vs => .tup (vs.map fun | .c x => .c (x.ren f) | .agg cs => .agg (cs.map (·.ren f)) | v => v)
def pickB (m : List Blk) : List Nat → Option (List Blk)
 | [] => some []
 | b :: r => (m[b]?).bind fun blk => if refsL blk.cs = 0 then (pickB m r).bind fun l => some (blk :: l) else none
def fin (n0 : Nat) (v : V) (st : St) : Ret :=
 if st.wr = 0 then
  if v.refs ≤ n0 then ⟨v, st.mem.take n0, 0, 0⟩
  else match pickB st.mem (nub (v.own n0)) with
   | some l => ⟨v.ren (pos n0 (nub (v.own n0))), st.mem.take n0 ++ l, 0, 0⟩
   | none => ⟨v, st.mem.take (mx n0 (mx st.esc v.refs)), st.esc, 0⟩
 else ⟨v, st.mem.take (mx n0 (mx st.esc v.refs)), st.esc, st.wr⟩
def V.one? : V → Option V
 | .tup _ => none
 | v => some v
def res1 (st : St) : IR → Option V
 | .t i => (get st.env i).one?
 | .cell i n ag => if ag then stepQ st.env st.mem (.loadN (.t i) n) else stepQ st.env st.mem (.load1 (.t i))
def resAll (st : St) : List IR → Option (List V)
 | [] => some []
 | r :: l => (res1 st r).bind fun v => (resAll st l).bind fun vs => some (v :: vs)
def resV : List V → V
 | [v] => v
 | vs => .tup vs
def number : Nat → List V → List (Nat × V)
 | _, [] => []
 | i, v :: r => (i, v) :: number (i + 1) r
def runF (call : FuncId → List V → List Blk → Option Ret) (L : Nat) (fn : IFn) (args : List V) (m : List Blk) : Option Ret :=
 if args.length ≤ fn.nt then (exec call L m.length none fn.body ⟨number 0 args, m, 0, 0⟩).bind fun p => match p.1 with
  | .exit _ => none
  | _ => (resAll p.2 fn.res).bind fun vs => some (fin m.length (resV vs) p.2)
 else none
def den (T : FuncId → Option IFn) (X : FuncId → List V → List Blk → Option Ret) (L : Nat) : Nat → FuncId → List V → List Blk → Option Ret
 | 0, f, args, m => X f args m
 | k + 1, f, args, m => match T f with
  | some fn => runF (den T X L k) L fn args m
  | none => X f args m
def cv : Value → C
 | .int k n => .int k n
 | .bool b => .bool b
 | .string s => .str s
 | .pointer a => if a.isNone then .nilp else .junk
 | .slice a n c => if a.isNone && n == 0 && c == 0 then .nils else .junk
 | .func fn x y => match fn with
  | .func f => if x.isEmpty && y.isEmpty then .fn f else .junk
  | _ => .junk
 | .nilFunc => .flat .nilFunc
 | .nilIface => .flat .nilIface
 | .map r => .flat (.map r)
 | _ => .junk
def trV : Value → V
 | .agg cs => if cs.all (·.oneCell') then .agg (cs.toList.map cv) else .c .junk
 | v => .c (cv v)
def trO : Operand → Opd
 | .tmp t => .t t
 | .const v => .k (trV v)
 | .func f => .k (.c (.fn f))
 | .global _ => .k (.c .junk)
def szT (P : Program) (t : TypeId) : Option Nat := (P.info? t).map (·.size)
def aggT (P : Program) (t : TypeId) : Option Bool := (P.underlying t).map fun | .struct _ | .array _ _ => true | _ => false
def zeroT (P : Program) (t : TypeId) : Option (List C) := ((P.info? t).bind (·.zero)).bind fun v => if v.cells.all (·.oneCell') then some (v.cells.toList.map cv) else none
def flatFs (P : Program) (F : TypeId → Option (List (Option IntKind))) : List Field → Nat → Option (List (Option IntKind))
 | [], _ => some []
 | f :: r, off => if f.name ≠ "_" ∧ f.offset = off then (F f.type).bind fun ks => if szT P f.type = some ks.length then (flatFs P F r (off + ks.length)).bind fun l => some (ks ++ l) else none else none
def flatT (P : Program) : Nat → TypeId → Option (List (Option IntKind))
 | 0, _ => none
 | d + 1, t => match P.underlying t with
  | some .bool => if szT P t = some 1 then some [none] else none
  | some (.int k) => if szT P t = some 1 then some [some k] else none
  | some (.struct fields) => if P.stoodInHeld t then none else (flatFs P (flatT P d) fields.toList 0).bind fun ks => if szT P t = some ks.length then some ks else none
  | some (.array len elem) => (flatT P d elem).bind fun ks => if szT P elem = some ks.length ∧ szT P t = some (len * ks.length) then some (List.replicate len ks).flatten else none
  | _ => none
def trPairs (P : Program) (fields : Array Field) : List (Nat × Operand) → Option (List (Nat × Nat × Opd))
 | [] => some []
 | (i, x) :: r => (fields[i]?).bind fun f => (szT P f.type).bind fun n => (trPairs P fields r).bind fun l => some ((f.offset, n, trO x) :: l)
def one? : List C → Option C
 | [z] => some z
 | _ => none
def trI (P : Program) : Op → Option I
 | .move x | .assign x => some (.mov (trO x))
 | .pick c a b => some (.pick (trO c) (trO a) (trO b))
 | .load t a => (aggT P t).bind fun ag => if ag then (szT P t).map (.loadN (trO a)) else some (.load1 (trO a))
 | .fieldAddr s x f => match P.underlying s with
  | some (.struct fields) => (fields[f]?).bind fun fd => (szT P fd.type).bind fun n => if n = 0 then none else some (.fld (trO x) fd.offset)
  | _ => none
 | .indexAddr t x i => match P.underlying t with
  | some (.array len elem) => (szT P elem).map (.ixa (trO x) (trO i) len)
  | some (.slice elem) => (szT P elem).map (.ixs (trO x) (trO i))
  | _ => none
 | .extract x k => some (.ext (trO x) k)
 | .binOp op ty x y _ => match P.underlying ty with
  | some (.int _) => if op = .shl ∨ op = .shr then some (.shf op (trO x) (trO y)) else some (.bin op (trO x) (trO y))
  | some .string => some (.bins op (trO x) (trO y))
  | some .bool => match op with
   | .eql => some (.binb false (trO x) (trO y))
   | .neq => some (.binb true (trO x) (trO y))
   | _ => none
  | some (.struct _) => if P.eqGuardType P.depth ty then none else (flatT P 20 ty).bind fun ks => match op with
   | .eql => some (.eqa false ks (trO x) (trO y))
   | .neq => some (.eqa true ks (trO x) (trO y))
   | _ => none
  | some (.array _ _) => if P.eqGuardType P.depth ty then none else (flatT P 20 ty).bind fun ks => match op with
   | .eql => some (.eqa false ks (trO x) (trO y))
   | .neq => some (.eqa true ks (trO x) (trO y))
   | _ => none
  | _ => none
 | .unOp op _ x => some (.un op (trO x))
 | .alloc t => (zeroT P t).map fun z => .alloc z t
 | .box t x => some (.box (trO x) t)
 | .store t a x => (szT P t).map (.store (trO a) (trO x))
 | .slice t x lo hi mx => match mx, P.underlying t with
  | none, some (.array n elem) => (szT P elem).map fun s => .sla (trO x) n s (lo.map trO) (hi.map trO)
  | none, some (.slice elem) => (szT P elem).map fun s => .sls (trO x) s (lo.map trO) (hi.map trO)
  | _, _ => none
 | .build t parts => match P.underlying t with
  | some (.struct fields) => if fields.all (fun f => (szT P f.type).isSome) then (zeroT P t).bind fun z => (trPairs P fields parts.toList).map (.bld z) else none
  | some (.array _ e) => (zeroT P t).bind fun z => (szT P e).map fun n => .bld z (parts.toList.map fun (i, x) => (i * n, n, trO x))
  | _ => none
 | .nilCheck x => some (.chk (trO x))
 | .makeInterface _ _ => some .bad
 | .panic _ => some .bad
 | .makeFunc fn first captured => match fn with
  | .func f => if first.isEmpty then some (.mkc f (captured.toList.map trO)) else none
  | _ => none
 | .convert src dst x => match P.underlying src, P.underlying dst with
  | some _, some (.int k) => some (.cvt k (trO x))
  | _, _ => none
 | .field t x f => match P.underlying t with
  | some (.struct fields) => (fields[f]?).bind fun fd => (szT P fd.type).bind fun n => (aggT P fd.type).bind fun ag => if ag = true ∨ n = 1 then some (.prt (trO x) fd.offset n ag) else none
  | _ => none
 | .index t x i => match P.underlying t with
  | some (.array len e) => (szT P e).bind fun n => (aggT P e).bind fun ag => if ag = true ∨ n = 1 then some (.idx (trO x) (trO i) len n ag) else none
  | some .string => some (.idxs (trO x) (trO i))
  | _ => none
 | .call c => match c.callee with
  | .value (.func f) => some (.call f (c.args.toList.map trO))
  | .value (.tmp t) => some (.callv (.t t) (c.args.toList.map trO))
  | .builtin .len => match c.args.toList, c.argTypes.toList with
   | [x], [t] => match P.underlying t with
    | some (.slice _) => some (.len (trO x))
    | some .string => some (.lens (trO x))
    | some (.array n _) => some (.mov (.k (.c (.int .i64 n))))
    | _ => none
   | _, _ => none
  | .builtin .max => match c.args.toList with
   | [x, y] => some (.mxi false (trO x) (trO y))
   | _ => none
  | .builtin .min => match c.args.toList with
   | [x, y] => some (.mxi true (trO x) (trO y))
   | _ => none
  | .builtin .clear => match c.args.toList, c.argTypes.toList with
   | [x], [t] => match P.underlying t with
    | some (.slice e) => ((zeroT P e).bind one?).map (.clr (trO x))
    | _ => none
   | _, _ => none
  | .builtin .append => match c.args.toList, c.argTypes.toList with
   | [x, y], [t, u] => match P.underlying t, P.underlying u with
    | some (.slice e), some (.slice e') => if e = e' ∧ t = u then (P.info? e).bind fun i => (zeroT P e).bind fun z => if i.size = z.length then some (.app (trO x) (trO y) e i.size i.bytes) else none else none
    | _, _ => none
   | _, _ => none
  | _ => none
 | .makeSlice t l c => match P.underlying t, trO l, trO c with
  | some (.slice e), .t a, .t b => if a = b then (P.info? e).bind fun i => (zeroT P e).bind fun z => if i.size = z.length then some (.mks (.t a) z e i.bytes) else none else none
  | _, _, _ => none
 | .buildSlice t n parts => match P.underlying t with
  | some (.slice e) => (P.info? e).bind fun i => (zeroT P e).bind fun z => if i.size = z.length then some <| .lit n i.size z (parts.toList.map fun (j, x) => (j, trO x)) e else none
  | _ => none
 | _ => none
def trOps (P : Program) (all : Array Oper) (nt : Nat) : List Oper → Option (List IOp)
 | [] => some []
 | o :: r => (trI P o.op).bind fun i => (trOps P all nt r).bind fun l =>
  match o.dst with
  | some d => if d < nt then (match o.guard with
    | none => some (⟨some d, none, i⟩ :: l)
    | some (j, b) => ((all[j]?).bind (·.dst)).bind fun t => some (⟨some d, some (t, b), i⟩ :: l)) else none
  | none => match o.guard with
    | none => some (⟨none, none, i⟩ :: l)
    | some (j, b) => ((all[j]?).bind (·.dst)).bind fun t => some (⟨none, some (t, b), i⟩ :: l)
structure Keep where
 l : List (Nat × List Nat × List Nat)
 r : List Nat
 e : Bool := false
 c : Bool := false
def keepOf : List (Nat × List Nat × List Nat) → Nat → Option (List Nat × List Nat)
 | [], _ => none
 | (i, l) :: r, id => if i = id then some l else keepOf r id
def IOp.looks (o : IOp) : List Nat := (o.i.opds.filterMap fun | .t i => some i | _ => none) ++ (o.gd.toList.map (·.1))
def apartI (x y : IOp) : Bool := (match x.dst with | some d => !(y.looks.contains d) && y.dst != some d | none => true) && (match y.dst with | some d => !(x.looks.contains d) | none => true)
def joinN : List Nat → List Nat → List Nat
 | [], s => s
 | x :: r, s => if s.contains x then joinN r s else joinN r (x :: s)
def reachL (ops : Array Oper) : List (List Nat) := ops.toList.foldl (fun acc o => acc ++ [(o.after.toList.filter fun e => Region.binds .any e).foldl (fun r e => joinN (e.on :: acc.getD e.on []) r) []]) []
def inR (R : List (List Nat)) (j k : Nat) : Bool := (R.getD k []).contains j
def reachOk (ops : Array Oper) (R : List (List Nat)) : Bool := (List.range ops.size).all fun k => (R.getD k []).all fun j => ((ops[k]?).map fun o => o.after.any fun e => Region.binds .any e && (e.on == j || (decide (e.on < k) && inR R j e.on))).getD false
def isAl (o : IOp) : Bool := o.gd.isNone && o.dst.isSome && (match o.i with | .alloc z _ => z.all (·.hard) | _ => false)
def isCl (o : IOp) : Bool := match o.i with | .call _ _ => true | _ => false
def trE1 (cl : Bool) (R : List (List Nat)) (l : List IOp) (k p : Nat) (o : IOp) : EOp :=
 let js := (List.range l.length).filter fun j => j != k && !(inR R j k) && !(inR R k j)
 let c (j : Nat) : Nat := ((l[j]?).map (·.i.cls)).getD 0
 let call := isCl o
 let ml := o.i.cls == 3 && js.any fun j => c j != 0 && !(call && c j == 1 && (cl || decide (j < k))) && !(call && decide (k < j) && ((l[j]?).map isAl).getD false)
 let un := if ml || o.i.cls == 0 then [] else js.filter fun j => decide (j < k) && c j != 0 && !(c j == 1 && o.i.cls == 1) && !(isAl o && ((l[j]?).map isCl).getD false)
 ⟨o, k, p, ml, un⟩
def trE (cl : Bool) (R : List (List Nat)) (all : List IOp) : Nat → Nat → List IOp → List EOp
 | _, _, [] => []
 | k, p, o :: r => trE1 cl R all k p o :: trE cl R all (k + 1) (if o.i.makes then p + 1 else p) r
def pairE (a i : EOp) : Bool := apartI a.op i.op && !(a.un.contains i.ix) && (a.cls == 0 || i.cls == 0 || (a.cls == 1 && i.cls == 1) || (i.un.contains a.ix && a.cls != 3 && i.cls != 3) || (a.cls == 1 && chkI i.op.i i.ml i.un && i.un.contains a.ix) || (a.cls == 3 && i.cls == 1 && i.un.contains a.ix))
def pendE (a i : EOp) : Bool := a.cls == 3 && isAl i.op && apartI a.op i.op
def regOk (ops : Array Oper) (R : List (List Nat)) (l : List EOp) : Bool := reachOk ops R &&
 (List.range l.length).all fun k => (match ops[k]? with | some o => o.after.all fun e => !(Region.binds .any e) || decide (e.on < k) | none => false) &&
  (match l[k]? with | some i => i.ix == k && (List.range k).all fun j => inR R j k || (match l[j]? with | some a => pairE a i || (pendE a i && (List.range l.length).all fun d => !(inR R k d) || inR R j d) | none => false) | none => false)
def trRE (P : Program) (cl : Bool) (ops : Array Oper) (l : List IOp) : Option IC :=
 let R := reachL ops
 let es := trE cl R l 0 0 l
 if regOk ops R es then some (.regE ((l.filter (·.i.makes)).length) es) else none
def trC (P : Program) (nt : Nat) (keep : Keep) : Code → Option IC
 | .skip => some .skip
 | .region id ops draw => if draw && !(P.follows .mixedOrders && Region.lexB .any ops) then none else (trOps P ops nt ops.toList).bind fun l => if draw && (l.any fun o => o.i.cls == 2 || o.dst.isNone || (keep.e && o.i.cls == 3)) then trRE P keep.c ops l else some (.reg draw l)
 | .seq a b => (trC P nt keep a).bind fun x => (trC P nt keep b).map (.seq x)
 | .cond c a b => (trC P nt keep a).bind fun x => (trC P nt keep b).map (.cond (trO c) x)
 | .block id b => (trC P nt keep b).map (.block id ((keepOf keep.l id).map (·.1)) ((keepOf keep.l id).map (·.2)))
 | .loop b => (trC P nt keep b).map .loop
 | .exit id => some (.exit id)
 | .ret => some (.ret (some keep.r))
 | _ => none
def trR (P : Program) : List ResultVar → Option (List IR)
 | [] => some []
 | .tmp t :: r => (trR P r).map (.t t :: ·)
 | .cell a t :: r => (aggT P t).bind fun ag => (szT P t).bind fun n => (trR P r).map (.cell a n ag :: ·)
def trF (P : Program) (keep : Keep) (fn : Func) : Option IFn :=
 fn.body.bind fun c => (trC P fn.ntmps keep c).bind fun b => (trR P fn.results.toList).map fun rs => ⟨fn.ntmps, rs, b⟩
end
end Go.Proofs.YtfbeplbcaanimaaGreat
set_option linter.unusedVariables false
set_option linter.unusedSimpArgs false
namespace Go.Proofs.YtfbeplbcaanimaaGreat
open Go.RowKit
section
variable {P : Program} {w : World} {ι : Nat → Nat × Nat} {m : List Blk}
theorem cv_CR (v : Value) : CR w ι m (cv v) v := by
 cases v with
 | int k n => exact .int _ _
 | bool b => exact .bool _
 | string s => exact .str _
 | pointer a =>
  cases a with
  | none => exact .nilp
  | some a => exact .junk _
 | slice a n c =>
  simp only [cv]
  split
  ·rename_i h
   simp only [Bool.and_eq_true, beq_iff_eq, Option.isNone_iff_eq_none] at h
   obtain ⟨⟨rfl, rfl⟩, rfl⟩ := h
   exact .nils
  ·exact .junk _
 | func fn x y =>
  cases fn with
  | func f =>
   simp only [cv]
   split
   ·rename_i h
    simp only [Bool.and_eq_true, Array.isEmpty_iff] at h
    obtain ⟨rfl, rfl⟩ := h
    exact .fn f
   ·exact .junk _
  | _ => exact .junk _
 | nilFunc => exact .flat _ rfl
 | nilIface => exact .flat _ rfl
 | map r => exact .flat _ rfl
 | _ => exact .junk _
theorem trV_VR (v : Value) : VR w ι m (trV v) v := by
 unfold trV
 split
 ·rename_i cs
  split
  ·rename_i h
   refine .agg ⟨by simp, fun j c hj => ?_⟩
   simp only [List.getElem?_map, Option.map_eq_some_iff] at hj
   obtain ⟨r, hr, rfl⟩ := hj
   refine ⟨r, hr, cv_CR r, ?_⟩
   have hm : r ∈ cs := by
    have := List.mem_of_getElem? hr
    simpa using this
   exact (Array.all_eq_true'.1 h) r hm
  ·exact .c (.junk _)
 ·exact .c (cv_CR _)
def EnvR (w : World) (ι : Nat → Nat × Nat) (m : List Blk) (env : List (Nat × V)) (a : Act) : Prop := ∀ t, VR w ι m (get env t) (a.tmps.getD t undef)
theorem EnvR.evo {w' : World} {ι' : Nat → Nat × Nat} {m' : List Blk} {env : List (Nat × V)} {a : Act} (h : EnvR w ι m env a) (he : Evo w ι m w' ι' m') : EnvR w' ι' m' env a := fun t => (h t).evo he
theorem EnvR.below {w' : World} {env : List (Nat × V)} {a : Act} (h : EnvR w ι m env a) (he : Below w.heap.size w w') : EnvR w' ι m env a := fun t => (h t).below he
theorem EnvR.put {env : List (Nat × V)} {a : Act} (h : EnvR w ι m env a) {d : Nat} {v : V} {r : Value} (hd : d < a.tmps.size) (hv : VR w ι m v r) : EnvR w ι m ((d, v) :: env) (a.put (some d) r) := by
 intro t
 simp only [get, Act.put]
 split
 ·rename_i e
  subst e
  simpa [hd] using hv
 ·rename_i e
  have := h t
  simpa [Array.getElem?_setIfInBounds, e] using this
theorem ev_VR {env : List (Nat × V)} {a : Act} (h : EnvR w ι m env a) (x : Operand) : VR w ι m ((trO x).ev env) (a.eval x) := by
 cases x with
 | tmp t => exact h t
 | const v => exact trV_VR v
 | global g => exact .c (.junk _)
 | func f => exact .c (.fn f)
theorem live_some {b tot : Nat} {blk : Blk} (h : live m b tot = some blk) : m[b]? = some blk ∧ tot = blk.cs.length := by
 unfold live at h
 cases hb : m[b]? with
 | none => rw [hb] at h; cases h
 | some blk' =>
  rw [hb] at h
  simp only [Option.bind_some] at h
  split at h
  ·injection h with h; subst h; exact ⟨rfl, by assumption⟩
  ·cases h
theorem VR.ptr {b off tot : Nat} {blk : Blk} {r : Value} (h : VR w ι m (.c (.ptr b off tot)) r) (hl : live m b tot = some blk) : r = .pointer (some (atA ι b off)) := by
 obtain ⟨hb, ht⟩ := live_some hl
 cases h.of_c with
 | @ptr _ _ _ blk' _ _ hb' ht' ha hv =>
  rw [hb] at hb'
  injection hb' with hb'
  subst hb'
  exact hv ht
theorem VR.sl {b off len tot : Nat} {blk : Blk} {r : Value} (h : VR w ι m (.c (.sl b off len tot)) r) (hl : live m b tot = some blk) :
  ∃ ad cap, r = .slice (some ad) len cap ∧ (0 < len ∨ off = 0 → ad = atA ι b off) ∧ len ≤ cap ∧ cap ≤ maxLen ∧ (0 < blk.esz → off = 0 → sizeAt w (ι b).1 = some (cap * blk.esz)) := by
 obtain ⟨hb, ht⟩ := live_some hl
 cases h.of_c with
 | @sl _ _ _ _ blk' _ _ hb' ht' ha hv =>
  rw [hb] at hb'
  injection hb' with hb'
  subst hb'
  exact hv ht
theorem VR.pal {b off tot : Nat} {blk : Blk} {r : Value} (h : VR w ι m (.c (.ptr b off tot)) r) (hb : m[b]? = some blk) : blk.alive := by
 cases h.of_c with
 | @ptr _ _ _ blk' _ _ hb' ht' ha hv =>
  rw [hb] at hb'
  injection hb' with hb'
  subst hb'
  exact ha
theorem VR.sal {b off len tot : Nat} {blk : Blk} {r : Value} (h : VR w ι m (.c (.sl b off len tot)) r) (hb : m[b]? = some blk) : blk.alive := by
 cases h.of_c with
 | @sl _ _ _ _ blk' _ _ hb' ht' ha hv =>
  rw [hb] at hb'
  injection hb' with hb'
  subst hb'
  exact ha
theorem VR.int {k : IntKind} {n : Int} {r : Value} (h : VR w ι m (.c (.int k n)) r) : r = .int k n := by cases h.of_c; rfl
theorem VR.bool {b : Bool} {r : Value} (h : VR w ι m (.c (.bool b)) r) : r = .bool b := by cases h.of_c; rfl
theorem VR.str {s : ByteArray} {r : Value} (h : VR w ι m (.c (.str s)) r) : r = .string s := by cases h.of_c; rfl
theorem VR.nils {r : Value} (h : VR w ι m (.c .nils) r) : r = .slice none 0 0 := by cases h.of_c; rfl
theorem VR.clo {f : FuncId} {ns : List (IntKind × Int)} {r : Value} (h : VR w ι m (.c (.clo f ns)) r) : r = .func (.func f) #[] (ns.map fun p => Value.int p.1 p.2).toArray := by cases h.of_c; rfl
theorem VR.clp {f : FuncId} {b off tot : Nat} {r : Value} (h : VR w ι m (.c (.clp f b off tot)) r) : ∃ r', r = .func (.func f) #[] #[r'] ∧ CR w ι m (.ptr b off tot) r' := by
 cases h.of_c with
 | clp _ h0 hb ht ha hv => exact ⟨_, rfl, .ptr h0 hb ht ha hv⟩
theorem VR.fn {f : FuncId} {r : Value} (h : VR w ι m (.c (.fn f)) r) : r = .func (.func f) #[] #[] := by cases h.of_c; rfl
theorem int?_some {v : V} {n : Int} (h : v.int? = some n) : ∃ k, v = .c (.int k n) := by
 unfold V.int? at h
 split at h
 ·injection h with h; subst h; exact ⟨_, rfl⟩
 ·cases h
theorem bool?_some {v : V} {n : Bool} (h : v.bool? = some n) : v = .c (.bool n) := by
 unfold V.bool? at h
 split at h
 ·injection h with h; subst h; rfl
 ·cases h
theorem run_isAgg {t : TypeId} {ag : Bool} (h : aggT P t = some ag) (w : World) : (isAgg t).run P w = .ok ag w := by
 unfold aggT at h
 cases hu : P.underlying t with
 | none => rw [hu] at h; cases h
 | some d =>
  rw [hu] at h
  simp only [Option.map_some, Option.some.injEq] at h
  unfold isAgg
  simp only [Sem.run_bind, run_underlying hu w, Result.andThen_ok]
  cases d <;> simp_all
theorem run_sizeOf {t : TypeId} {n : Nat} (h : szT P t = some n) (w : World) : (sizeOf t).run P w = .ok n w := by
 unfold szT at h
 cases hi : P.info? t with
 | none => rw [hi] at h; cases h
 | some i =>
  rw [hi] at h
  simp only [Option.map_some, Option.some.injEq] at h
  simp [sizeOf, typeInfo, hi, h]
theorem run_load_agg {base : Nat} (s : Sim base w ι m) {t : TypeId} {n : Nat} (ha : aggT P t = some true) (hz : szT P t = some n) {b : Nat} {blk : Blk} (hb : m[b]? = some blk) (hal : blk.alive) (off : Nat) (hn : off + n ≤ blk.cs.length) :
  ∃ rs : List Value, AR w ι m ((blk.cs.drop off).take n) rs ∧ ∀ w', Below w.heap.size w w' → (loadVar t (atA ι b off)).run P w' = .ok (.agg rs.toArray) w' := by
 obtain ⟨rs, h1, h2⟩ := s.cells hb off n hn
 refine ⟨rs, h1, fun w' hw => ?_⟩
 have hlen : rs.length = n := by rw [← h1.1]; simp; omega
 have hl := run_loadCells_list (P := P) w' (atA ι b off) rs (fun j v hj => by
  rw [hw.cell (by rw [add_atA]; exact s.block_lt hb hal (.inr fun e => by
   have hlt : j < rs.length := (List.getElem?_eq_some_iff.1 hj).1
   have := h1.1
   rw [e] at this
   simp at this
   omega))]
  exact h2 j v hj)
 rw [hlen] at hl
 simp [loadVar, run_isAgg ha, run_sizeOf hz, hl]
theorem run_load_one {base : Nat} (s : Sim base w ι m) {t : TypeId} (ha : aggT P t = some false) {b : Nat} {blk : Blk} (hb : m[b]? = some blk) (hal : blk.alive) {off : Nat} {c : C} (hc : blk.cs[off]? = some c) :
  ∃ r, CR w ι m c r ∧ r.oneCell' = true ∧ ∀ w', Below w.heap.size w w' → (loadVar t (atA ι b off)).run P w' = .ok r w' := by
 obtain ⟨r, h1, h2, h3⟩ := s.cell hb hc
 refine ⟨r, h2, h3, fun w' hw => ?_⟩
 have hl : w'.cell? (atA ι b off) = some r := by
  rw [hw.cell (s.block_lt hb hal (.inr fun e => by rw [e] at hc; cases hc))]
  exact h1
 simp [loadVar, run_isAgg ha, hl]
end
end Go.Proofs.YtfbeplbcaanimaaGreat
set_option linter.unusedVariables false
set_option linter.unusedSimpArgs false
namespace Go.Proofs.YtfbeplbcaanimaaGreat
open Go.RowKit
section
variable {P : Program} {w : World} {ι : Nat → Nat × Nat} {m : List Blk} {base : Nat} {env : List (Nat × V)} {a : Act} {o : Oper}
def Does (P : Program) (w : World) (ι : Nat → Nat × Nat) (m : List Blk) (a : Act) (o : Oper) (v : V) : Prop :=
 ∃ r, VR w ι m v r ∧ ∀ w', Below w.heap.size w w' → (execOp a.eval o).run P w' = .ok (.value r) w'
theorem does_mov (he : EnvR w ι m env a) {x : Operand} (ho : o.op = .move x ∨ o.op = .assign x) : Does P w ι m a o ((trO x).ev env) := by
 refine ⟨a.eval x, ev_VR he x, fun w' _ => ?_⟩
 rcases ho with ho | ho <;> simp [execOp, ho]
theorem does_pick (he : EnvR w ι m env a) {c x y : Operand} (ho : o.op = .pick c x y) {v : V}
  (hs : stepQ env m (.pick (trO c) (trO x) (trO y)) = some v) : Does P w ι m a o v := by
 simp only [stepQ, guard', Option.bind_eq_some_iff, Option.some.injEq] at hs
 obtain ⟨t, ht, rfl⟩ := hs
 have hc := ev_VR he c
 rw [bool?_some ht] at hc
 refine ⟨if t then a.eval x else a.eval y, ?_, fun w' _ => ?_⟩
 ·cases t
  ·exact ev_VR he y
  ·exact ev_VR he x
 ·simp [execOp, ho, hc.bool, asBool]
theorem does_load (s : Sim base w ι m) (he : EnvR w ι m env a) {t : TypeId} {x : Operand} (ho : o.op = .load t x) {i : I} (ht : trI P (.load t x) = some i) {v : V}
  (hs : stepQ env m i = some v) : Does P w ι m a o v := by
 simp only [trI, Option.bind_eq_some_iff] at ht
 obtain ⟨ag, hag, ht⟩ := ht
 have hx := ev_VR he x
 cases ag with
 | true =>
  simp only [if_true, Option.map_eq_some_iff] at ht
  obtain ⟨n, hn, rfl⟩ := ht
  simp only [stepQ, guard'] at hs
  split at hs
  ·rename_i b off tot hp
   simp only [Option.bind_eq_some_iff] at hs
   obtain ⟨blk, hl, hs⟩ := hs
   split at hs
   ·rename_i hle
    injection hs with hs; subst hs
    rw [hp] at hx
    obtain ⟨rs, h1, h2⟩ := run_load_agg (P := P) s hag hn (live_some hl).1 (hx.pal (live_some hl).1) off hle
    refine ⟨.agg rs.toArray, .agg (by simpa using h1), fun w' hw => ?_⟩
    simp [execOp, ho, hx.ptr hl, Instr.loadAt, Instr.sureAddr, h2 w' hw]
   ·cases hs
  ·cases hs
 | false =>
  simp only [Bool.false_eq_true, if_false, Option.some.injEq] at ht
  subst ht
  simp only [stepQ, guard'] at hs
  split at hs
  ·rename_i b off tot hp
   simp only [Option.bind_eq_some_iff] at hs
   obtain ⟨blk, hl, c, hc, hs⟩ := hs
   injection hs with hs; subst hs
   rw [hp] at hx
   obtain ⟨r, h1, _, h2⟩ := run_load_one (P := P) s hag (live_some hl).1 (hx.pal (live_some hl).1) hc
   refine ⟨r, .c h1, fun w' hw => ?_⟩
   simp [execOp, ho, hx.ptr hl, Instr.loadAt, Instr.sureAddr, h2 w' hw]
  ·cases hs
theorem atA_add (b o k : Nat) : (atA ι b o).add k = atA ι b (o + k) := add_atA ι b o k
theorem ptr_in {b o tot : Nat} {blk : Blk} (hl : live m b tot = some blk) (ha : blk.alive) (o' : Nat) : VR w ι m (.c (.ptr b o' tot)) (.pointer (some (atA ι b o'))) :=
 .c (.ptr rfl (live_some hl).1 (by rw [(live_some hl).2]; exact Nat.le_refl _) ha fun _ => rfl)
theorem does_fld (he : EnvR w ι m env a) {t : TypeId} {x : Operand} {f : Nat} (ho : o.op = .fieldAddr t x f) {i : I} (ht : trI P (.fieldAddr t x f) = some i) {v : V}
  (hs : stepQ env m i = some v) : Does P w ι m a o v := by
 simp only [trI] at ht
 split at ht
 ·rename_i fields hu
  simp only [Option.bind_eq_some_iff] at ht
  obtain ⟨fd, hfd, n, hn, ht⟩ := ht
  split at ht
  ·cases ht
  ·rename_i hn0
   injection ht with ht; subst ht
   have hx := ev_VR he x
   simp only [stepQ, guard'] at hs
   split at hs
   ·rename_i b off tot hp
    simp only [Option.bind_eq_some_iff] at hs
    obtain ⟨blk, hl, hs⟩ := hs
    injection hs with hs; subst hs
    rw [hp] at hx
    refine ⟨_, ptr_in (o := off) hl (hx.pal (live_some hl).1) (off + fd.offset), fun w' hw => ?_⟩
    simp [execOp, ho, hx.ptr hl, Instr.fieldAt, Instr.sureAddr, run_underlying hu, hfd, fieldPlace, run_sizeOf hn, hn0, atA_add]
   ·cases hs
 ·cases ht
theorem does_ixa (he : EnvR w ι m env a) {t : TypeId} {x y : Operand} (ho : o.op = .indexAddr t x y) {i : I} (ht : trI P (.indexAddr t x y) = some i) {v : V}
  (hs : stepQ env m i = some v) : Does P w ι m a o v := by
 have hx := ev_VR he x
 have hy := ev_VR he y
 simp only [trI] at ht
 split at ht
 ·rename_i len elem hu
  simp only [Option.map_eq_some_iff] at ht
  obtain ⟨n, hn, rfl⟩ := ht
  simp only [stepQ, guard'] at hs
  split at hs
  ·rename_i b off tot k q hp hq
   simp only [Option.bind_eq_some_iff] at hs
   obtain ⟨blk, hl, hs⟩ := hs
   split at hs
   ·rename_i hr
    injection hs with hs; subst hs
    rw [hp] at hx
    rw [hq] at hy
    refine ⟨_, ptr_in (o := off) hl (hx.pal (live_some hl).1) (off + q.toNat * n), fun w' hw => ?_⟩
    simp [execOp, ho, hx.ptr hl, hy.int, Instr.indexAt, asIntOf, Instr.sureAddr, run_underlying hu, run_sizeOf hn, hr, atA_add]
   ·cases hs
  ·cases hs
 ·rename_i elem hu
  simp only [Option.map_eq_some_iff] at ht
  obtain ⟨n, hn, rfl⟩ := ht
  simp only [stepQ, guard'] at hs
  split at hs
  ·rename_i b off len tot k q hp hq
   simp only [Option.bind_eq_some_iff] at hs
   obtain ⟨blk, hl, hs⟩ := hs
   split at hs
   ·rename_i hr
    injection hs with hs; subst hs
    rw [hp] at hx
    rw [hq] at hy
    obtain ⟨ad, cap, h1, hat, _⟩ := hx.sl hl
    have hat := hat (.inl (by omega))
    subst hat
    refine ⟨_, ptr_in (o := off) hl (hx.sal (live_some hl).1) (off + q.toNat * n), fun w' hw => ?_⟩
    simp [execOp, ho, h1, hy.int, Instr.indexAt, asIntOf, run_underlying hu, run_sizeOf hn, hr, atA_add]
   ·cases hs
  ·cases hs
 ·cases ht
theorem does_ext (he : EnvR w ι m env a) {x : Operand} {k : Nat} (ho : o.op = .extract x k) {v : V}
  (hs : stepQ env m (.ext (trO x) k) = some v) : Does P w ι m a o v := by
 have hx := ev_VR he x
 simp only [stepQ, guard'] at hs
 split at hs
 ·rename_i vs hp
  rw [hp] at hx
  generalize hr0 : a.eval x = r0 at hx
  cases hx with
  | one h => cases h
  | tup hl h =>
   obtain ⟨r, h1, h2⟩ := h k v hs
   refine ⟨r, .one h2, fun w' hw => ?_⟩
   simp [execOp, ho, hr0, Instr.extract, h1]
 ·cases hs
theorem run_eqGuard (op : BinOp) (t : TypeId) (x y : Operand) (u v : Value) (h : (∃ k n, u = .int k n) ∨ (∃ b, u = .bool b) ∨ (∃ b, u = .string b)) (w : World) : (eqGuard op t x y u v).run P w = .ok () w := by
 unfold eqGuard
 rcases h with ⟨k, n, rfl⟩ | ⟨b, rfl⟩ | ⟨b, rfl⟩ <;> cases op <;> rfl
theorem run_binI {op : BinOp} {k : IntKind} {p q : Int} {v : V} (h : binI op k p q = some v) (t : TypeId) : ∃ r, VR w ι m v r ∧ ∀ w', (binOp op t (.int k p) (.int k q)).run P w' = .ok r w' := by
 unfold binI at h
 cases op <;> simp only [] at h
 case add => injection h with h; subst h; exact ⟨_, .c (.int _ _), fun w' => by simp [binOp, Op.intArith]⟩
 case sub => injection h with h; subst h; exact ⟨_, .c (.int _ _), fun w' => by simp [binOp, Op.intArith]⟩
 case mul => injection h with h; subst h; exact ⟨_, .c (.int _ _), fun w' => by simp [binOp, Op.intArith]⟩
 case quo =>
  split at h
  ·cases h
  ·rename_i hq
   injection h with h; subst h; exact ⟨_, .c (.int _ _), fun w' => by simp [binOp, Op.intDiv, hq]⟩
 case rem =>
  split at h
  ·cases h
  ·rename_i hq
   injection h with h; subst h; exact ⟨_, .c (.int _ _), fun w' => by simp [binOp, Op.intDiv, hq]⟩
 case eql => injection h with h; subst h; exact ⟨_, .c (.bool _), fun w' => by simp [binOp, Op.intCmp]⟩
 case neq => injection h with h; subst h; exact ⟨_, .c (.bool _), fun w' => by simp [binOp, Op.intCmp]⟩
 case lss => injection h with h; subst h; exact ⟨_, .c (.bool _), fun w' => by simp [binOp, Op.intCmp]⟩
 case leq => injection h with h; subst h; exact ⟨_, .c (.bool _), fun w' => by simp [binOp, Op.intCmp]⟩
 case gtr => injection h with h; subst h; exact ⟨_, .c (.bool _), fun w' => by simp [binOp, Op.intCmp]⟩
 case geq => injection h with h; subst h; exact ⟨_, .c (.bool _), fun w' => by simp [binOp, Op.intCmp]⟩
 case and => injection h with h; subst h; exact ⟨_, .c (.int _ _), fun w' => by simp [binOp, Op.intBits]⟩
 case or => injection h with h; subst h; exact ⟨_, .c (.int _ _), fun w' => by simp [binOp, Op.intBits]⟩
 case xor => injection h with h; subst h; exact ⟨_, .c (.int _ _), fun w' => by simp [binOp, Op.intBits]⟩
 all_goals cases h
theorem run_binS {op : BinOp} {p q : ByteArray} {v : V} (h : binS op p q = some v) (t : TypeId) : ∃ r, VR w ι m v r ∧ ∀ w', (binOp op t (.string p) (.string q)).run P w' = .ok r w' := by
 unfold binS at h
 cases op <;> simp only [] at h
 case add =>
  split at h
  ·rename_i hl
   injection h with h; subst h
   refine ⟨_, .c (.str _), fun w' => ?_⟩
   have h2 : IntKind.i64.max = 9223372036854775807 := by decide
   have hn : ¬ ((p.size + q.size : Nat) : Int) > IntKind.i64.max := by rw [h2]; omega
   simp only [binOp, Op.stringOp, if_neg hn]
   rfl
  ·cases h
 case eql => injection h with h; subst h; exact ⟨_, .c (.bool _), fun w' => by simp [binOp, Op.stringOp]⟩
 case neq => injection h with h; subst h; exact ⟨_, .c (.bool _), fun w' => by simp [binOp, Op.stringOp]⟩
 case lss => injection h with h; subst h; exact ⟨_, .c (.bool _), fun w' => by simp [binOp, Op.stringOp]⟩
 all_goals cases h
def valOf (P : Program) (t : TypeId) (rs : List Value) : Option Value :=
 match aggT P t, rs with
 | some true, _ => some (.agg rs.toArray)
 | some false, [r] => some r
 | _, _ => none
theorem run_part {t : TypeId} {n : Nat} (hz : szT P t = some n) {rs : List Value} {off : Nat} (hn : off + n ≤ rs.length) {v : Value} (hv : valOf P t ((rs.drop off).take n) = some v) (w : World) :
  (part t rs.toArray off).run P w = .ok v w := by
 unfold valOf at hv
 split at hv
 ·rename_i ha
  injection hv with hv; subst hv
  simp only [part, Sem.run_bind, run_isAgg ha, Result.andThen_ok, if_true, run_sizeOf hz, Sem.run_pure]
  congr 2
  apply Array.ext'
  simp [List.extract_eq_take_drop]
 ·rename_i r ha hr
  injection hv with hv; subst hv
  have : rs[off]? = some r := by
   have h0 : ((rs.drop off).take n)[0]? = some r := by rw [hr]; rfl
   rw [List.getElem?_take] at h0
   split at h0
   ·simpa using h0
   ·cases h0
  simp [part, run_isAgg ha, this]
 ·cases hv
theorem AR.cut {cs : List C} {rs : List Value} (h : AR w ι m cs rs) (off n : Nat) : AR w ι m ((cs.drop off).take n) ((rs.drop off).take n) := by
 refine ⟨by simp [h.1], fun j c hj => ?_⟩
 rw [List.getElem?_take] at hj ⊢
 split at hj
 ·rename_i hl
  rw [if_pos hl]
  rw [List.getElem?_drop] at hj ⊢
  exact h.2 _ c hj
 ·cases hj
theorem does_un (he : EnvR w ι m env a) {op : UnOp} {t : TypeId} {x : Operand} (ho : o.op = .unOp op t x) {v : V}
  (hs : stepQ env m (.un op (trO x)) = some v) : Does P w ι m a o v := by
 have hx := ev_VR he x
 simp only [stepQ, guard'] at hs
 generalize hvx : (trO x).ev env = vx at hx hs
 unfold un' at hs
 split at hs
 ·rename_i p
  cases op <;> simp at hs
  subst hs
  exact ⟨_, .c (.bool _), fun w' hw => by simp [execOp, ho, hx.bool, Op.unary]⟩
 ·rename_i k p
  cases op <;> simp at hs
  subst hs
  exact ⟨_, .c (.int _ _), fun w' hw => by simp [execOp, ho, hx.int, Op.unary, Op.intArith]⟩
 ·cases hs
end
end Go.Proofs.YtfbeplbcaanimaaGreat
set_option linter.unusedVariables false
set_option linter.unusedSimpArgs false
namespace Go.Proofs.YtfbeplbcaanimaaGreat
open Go.RowKit
section
variable {P : Program} {w : World} {ι : Nat → Nat × Nat} {m : List Blk} {base : Nat} {env : List (Nat × V)} {a : Act} {o : Oper}
theorem eqL_len : ∀ {ks : List (Option IntKind)} {l r : List C} {b : Bool}, eqL ks l r = some b → l.length = ks.length ∧ r.length = ks.length
 | [], [], [], b, h => ⟨rfl, rfl⟩
 | k :: ks, a :: l, c :: r, b, h => by
  simp only [eqL, Option.bind_eq_some_iff] at h
  obtain ⟨t, _, u, hu, _⟩ := h
  have := eqL_len hu
  simp [this.1, this.2]
 | [], [], _ :: _, b, h => by cases h
 | [], _ :: _, _, b, h => by cases h
 | _ :: _, [], _, b, h => by cases h
 | _ :: _, _ :: _, [], b, h => by cases h
theorem eqL_app : ∀ {k1 k2 : List (Option IntKind)} {l r : List C} {b : Bool}, eqL (k1 ++ k2) l r = some b → ∃ b1 b2, eqL k1 (l.take k1.length) (r.take k1.length) = some b1 ∧ eqL k2 (l.drop k1.length) (r.drop k1.length) = some b2 ∧ b = (b1 && b2)
 | [], k2, l, r, b, h => ⟨true, b, by simp [eqL], by simpa using h, by simp⟩
 | k :: k1, k2, a :: l, c :: r, b, h => by
  simp only [List.cons_append, eqL, Option.bind_eq_some_iff, Option.some.injEq] at h
  obtain ⟨t, ht, u, hu, rfl⟩ := h
  obtain ⟨b1, b2, h1, h2, rfl⟩ := eqL_app hu
  exact ⟨t && b1, b2, by simp [eqL, ht, h1], by simpa using h2, by simp [Bool.and_assoc]⟩
 | _ :: _, _, [], _, b, h => by cases h
 | _ :: _, _, _ :: _, [], b, h => by cases h
theorem flatT_size {d : Nat} {t : TypeId} {ks : List (Option IntKind)} (hf : flatT P d t = some ks) : szT P t = some ks.length := by
 cases d with
 | zero => cases hf
 | succ d =>
  unfold flatT at hf
  split at hf
  ·split at hf
   ·injection hf with hf; subst hf; assumption
   ·cases hf
  ·split at hf
   ·injection hf with hf; subst hf; assumption
   ·cases hf
  ·split at hf
   ·cases hf
   ·simp only [Option.bind_eq_some_iff] at hf
    obtain ⟨k, _, hf⟩ := hf
    split at hf
    ·injection hf with hf; subst hf; assumption
    ·cases hf
  ·simp only [Option.bind_eq_some_iff] at hf
   obtain ⟨k, _, hf⟩ := hf
   split at hf
   ·rename_i h
    injection hf with hf; subst hf
    rw [h.2]
    simp
   ·cases hf
  ·cases hf
theorem valOf_flat {d : Nat} {t : TypeId} {ks : List (Option IntKind)} (hf : flatT P d t = some ks) {rs : List Value} (hl : rs.length = ks.length) : ∃ v, valOf P t rs = some v := by
 cases d with
 | zero => cases hf
 | succ d =>
  unfold flatT at hf
  unfold valOf aggT
  split at hf
  ·rename_i hu
   split at hf
   ·injection hf with hf
    subst hf
    match rs, hl with
    | [r], _ => exact ⟨r, by simp [hu]⟩
   ·cases hf
  ·rename_i hu
   split at hf
   ·injection hf with hf
    subst hf
    match rs, hl with
    | [r], _ => exact ⟨r, by simp [hu]⟩
   ·cases hf
  ·rename_i hu
   exact ⟨.agg rs.toArray, by simp [hu]⟩
  ·rename_i hu
   exact ⟨.agg rs.toArray, by simp [hu]⟩
  ·cases hf
theorem AR.drop {cs : List C} {rs : List Value} (h : AR w ι m cs rs) (off : Nat) : AR w ι m (cs.drop off) (rs.drop off) := by
 refine ⟨by simp [h.1], fun j c hj => ?_⟩
 rw [List.getElem?_drop] at hj ⊢
 exact h.2 _ c hj
theorem flatT_one {t : TypeId} {k : Option IntKind} {rs qs : List Value} {cs ds : List C} {b : Bool} (hr : AR w ι m cs rs) (hq : AR w ι m ds qs) (he : eqL [k] cs ds = some b)
  (hu : (k = none ∧ P.underlying t = some .bool) ∨ (∃ kd, k = some kd ∧ P.underlying t = some (.int kd))) {x y : Value} (hx : valOf P t rs = some x) (hy : valOf P t qs = some y) (D : Nat) (w' : World) : (Op.equalIn (D + 1) t x y).run P w' = .ok b w' := by
 have ha : aggT P t = some false := by
  unfold aggT
  rcases hu with ⟨_, hu⟩ | ⟨k, _, hu⟩ <;> simp [hu]
 obtain ⟨hcs, hds⟩ := eqL_len he
 match cs, ds, hcs, hds with
 | [c], [e], _, _ =>
  simp only [eqL, Option.bind_some, Option.bind_eq_some_iff, Option.some.injEq, Bool.and_true] at he
  obtain ⟨t0, h0, rfl⟩ := he
  obtain ⟨r, hr0, hr1, _⟩ := hr.2 0 c rfl
  obtain ⟨q, hq0, hq1, _⟩ := hq.2 0 e rfl
  have hrl : rs.length = 1 := hr.1.symm
  have hql : qs.length = 1 := hq.1.symm
  match rs, qs, hrl, hql with
  | [r'], [q'], _, _ =>
   simp only [List.getElem?_cons_zero, Option.some.injEq] at hr0 hq0
   subst hr0; subst hq0
   simp only [valOf, ha, Option.some.injEq] at hx hy
   subst hx; subst hy
   rcases hu with ⟨rfl, hu⟩ | ⟨kd, rfl, hu⟩
   ·cases hr1 <;> simp only [eqC, reduceCtorEq] at h0
    cases hq1 <;> simp only [eqC, reduceCtorEq] at h0
    injection h0 with h0
    subst h0
    exact run_equalIn_bool' w' D t _ _ hu
   ·cases hr1 <;> simp only [eqC, reduceCtorEq] at h0
    cases hq1 <;> simp only [eqC, reduceCtorEq] at h0
    split at h0
    ·rename_i hk
     obtain ⟨rfl, rfl⟩ := hk
     injection h0 with h0
     subst h0
     exact run_equalIn_int w' D t _ _ _ _ hu
    ·cases h0
theorem run_equalIn_flat : ∀ (d : Nat) (t : TypeId) (ks : List (Option IntKind)), flatT P d t = some ks → ∀ (D : Nat), d ≤ D → ∀ (cs ds : List C) (rs qs : List Value) (b : Bool), AR w ι m cs rs → AR w ι m ds qs → eqL ks cs ds = some b →
  ∀ x y, valOf P t rs = some x → valOf P t qs = some y → ∀ w', (Op.equalIn D t x y).run P w' = .ok b w' := by
 intro d
 induction d with
 | zero => intro t n h; cases h
 | succ d ih =>
  intro t ks hf D hD cs ds rs qs b hr hq he x y hx hy w'
  obtain ⟨D, rfl⟩ : ∃ k, D = k + 1 := ⟨D - 1, by omega⟩
  -- one part
  have one : ∀ (e : TypeId) (k1 : List (Option IntKind)), flatT P d e = some k1 → ∀ (cs ds : List C) (rs qs : List Value) (off : Nat) (b1 : Bool), AR w ι m cs rs → AR w ι m ds qs → eqL k1 ((cs.drop off).take k1.length) ((ds.drop off).take k1.length) = some b1 →
    ∃ u v, (part e rs.toArray off).run P w' = .ok u w' ∧ (part e qs.toArray off).run P w' = .ok v w' ∧ (Op.equalIn D e u v).run P w' = .ok b1 w' := by
   intro e k1 hk cs ds rs qs off b1 hr hq he
   obtain ⟨h1, h2⟩ := eqL_len he
   have l1 : ((rs.drop off).take k1.length).length = k1.length := by rw [← (hr.cut off k1.length).1]; exact h1
   have l2 : ((qs.drop off).take k1.length).length = k1.length := by rw [← (hq.cut off k1.length).1]; exact h2
   obtain ⟨u, hu⟩ := valOf_flat hk l1
   obtain ⟨v, hv⟩ := valOf_flat hk l2
   have hlen : ∀ (l : List Value), ((l.drop off).take k1.length).length = k1.length → 0 < k1.length → off + k1.length ≤ l.length := by
    intro l hl hp
    simp at hl
    omega
   rcases Nat.eq_zero_or_pos k1.length with h0 | h0
   ·-- no cell at all: such a type has none
    have hz := flatT_size hk
    rw [h0] at hz l1 l2 hu hv
    have fin : ∀ (l : List Value) (z : Value), valOf P e ((l.drop off).take 0) = some z → (part e l.toArray off).run P w' = .ok z w' := by
     intro l z hz'
     unfold valOf at hz'
     split at hz'
     ·rename_i ha
      injection hz' with hz'; subst hz'
      simp only [part, Sem.run_bind, run_isAgg ha, Result.andThen_ok, if_true, run_sizeOf hz, Sem.run_pure]
      congr 2
      apply Array.ext'
      simp [List.extract_eq_take_drop]
     ·rename_i ha hq
      simp at hq
     ·cases hz'
    exact ⟨u, v, fin rs u hu, fin qs v hv, ih e k1 hk D (by omega) _ _ _ _ b1 (hr.cut off k1.length) (hq.cut off k1.length) he u v (by rw [h0]; exact hu) (by rw [h0]; exact hv) w'⟩
   ·exact ⟨u, v, run_part (flatT_size hk) (hlen rs l1 h0) hu w', run_part (flatT_size hk) (hlen qs l2 h0) hv w', ih e k1 hk D (by omega) _ _ _ _ b1 (hr.cut off k1.length) (hq.cut off k1.length) he u v hu hv w'⟩
  unfold flatT at hf
  split at hf
  ·rename_i hu
   split at hf
   ·injection hf with hf; subst hf
    exact flatT_one hr hq he (.inl ⟨rfl, hu⟩) hx hy D w'
   ·cases hf
  ·rename_i hu
   split at hf
   ·injection hf with hf; subst hf
    exact flatT_one hr hq he (.inr ⟨_, rfl, hu⟩) hx hy D w'
   ·cases hf
  ·rename_i fields hu
   split at hf
   ·cases hf
   ·rename_i hsi
    simp only [Option.bind_eq_some_iff] at hf
    obtain ⟨ks', hfs, hf⟩ := hf
    split at hf
    ·injection hf with hf
     subst hf
     have ha : aggT P t = some true := by simp [aggT, hu]
     simp only [valOf, ha, Option.some.injEq] at hx hy
     subst hx; subst hy
     have hfo : P.fieldsOf t = fields := by simp [Program.fieldsOf, hu]
     rw [run_equalIn_struct (P := P) w' D t _ _ (by rw [hfo]; exact hu) (by simpa using hsi), hfo]
     have go : ∀ (fs : List Field) (off : Nat) (ks : List (Option IntKind)) (b : Bool), flatFs P (flatT P d) fs off = some ks → eqL ks (cs.drop off) (ds.drop off) = some b → (Op.eqFields D rs.toArray qs.toArray fs).run P w' = .ok b w' := by
      intro fs
      induction fs with
      | nil =>
       intro off ks b h1 h2
       simp only [flatFs, Option.some.injEq] at h1
       subst h1
       obtain ⟨e1, e2⟩ := eqL_len h2
       have : cs.drop off = [] := List.eq_nil_of_length_eq_zero e1
       have h3 : ds.drop off = [] := List.eq_nil_of_length_eq_zero e2
       rw [this, h3] at h2
       simp only [eqL, Option.some.injEq] at h2
       subst h2
       simp [Op.eqFields]
      | cons f fs ihf =>
       intro off ks b h1 h2
       simp only [flatFs] at h1
       split at h1
       ·rename_i hn
        simp only [Option.bind_eq_some_iff] at h1
        obtain ⟨k1, hk1, h1⟩ := h1
        split at h1
        ·rename_i hsz
         simp only [Option.bind_eq_some_iff, Option.some.injEq] at h1
         obtain ⟨k2, hk2, rfl⟩ := h1
         obtain ⟨b1, b2, g1, g2, rfl⟩ := eqL_app h2
         obtain ⟨u, v, p1, p2, p3⟩ := one f.type k1 hk1 cs ds rs qs off b1 hr hq g1
         have hrest := ihf (off + k1.length) k2 b2 hk2 (by simpa [List.drop_drop] using g2)
         have hn1 := hn.1
         have hn2 := hn.2
         rw [← hn2] at p1 p2
         simp only [Op.eqFields, if_pos hn1, Sem.run_bind, p1, p2, p3, Result.andThen_ok]
         cases b1
         ·simp
         ·simpa using hrest
        ·cases h1
       ·cases h1
     exact go fields.toList 0 ks' b hfs (by simpa using he)
    ·cases hf
  ·rename_i len elem hu
   simp only [Option.bind_eq_some_iff] at hf
   obtain ⟨k1, hk1, hf⟩ := hf
   split at hf
   ·rename_i hsz
    injection hf with hf
    subst hf
    have ha : aggT P t = some true := by simp [aggT, hu]
    simp only [valOf, ha, Option.some.injEq] at hx hy
    subst hx; subst hy
    obtain ⟨i, hi⟩ : ∃ i, P.info? elem = some i := by
     have := hsz.1
     unfold szT at this
     cases h : P.info? elem with
     | none => rw [h] at this; cases this
     | some i => exact ⟨i, rfl⟩
    have hcell : P.cellsOf elem = k1.length := by
     have := hsz.1
     unfold szT at this
     rw [hi] at this
     simp only [Option.map_some, Option.some.injEq] at this
     simp [Program.cellsOf, hi, this]
    rw [run_equalIn_array (P := P) w' D _ _ hu hi, hcell]
    have go : ∀ (n j : Nat) (b : Bool), eqL (List.replicate n k1).flatten (cs.drop (j * k1.length)) (ds.drop (j * k1.length)) = some b → (Op.eqItems D elem k1.length rs.toArray qs.toArray (List.range' j n)).run P w' = .ok b w' := by
     intro n
     induction n with
     | zero =>
      intro j b h2
      obtain ⟨e1, e2⟩ := eqL_len h2
      simp only [List.replicate_zero, List.flatten_nil, List.length_nil] at e1 e2 h2
      have : cs.drop (j * k1.length) = [] := List.eq_nil_of_length_eq_zero e1
      have h3 : ds.drop (j * k1.length) = [] := List.eq_nil_of_length_eq_zero e2
      rw [this, h3] at h2
      simp only [eqL, Option.some.injEq] at h2
      subst h2
      simp [Op.eqItems]
     | succ n ihn =>
      intro j b h2
      rw [List.replicate_succ, List.flatten_cons] at h2
      obtain ⟨b1, b2, g1, g2, rfl⟩ := eqL_app h2
      obtain ⟨u, v, p1, p2, p3⟩ := one elem k1 hk1 cs ds rs qs (j * k1.length) b1 hr hq g1
      have hrest := ihn (j + 1) b2 (by rw [Nat.succ_mul]; simpa [List.drop_drop] using g2)
      rw [List.range'_succ]
      simp only [Op.eqItems, Sem.run_bind, p1, p2, p3, Result.andThen_ok]
      cases b1
      ·simp
      ·simpa using hrest
    have := go len 0 b (by simpa using he)
    rwa [← List.range_eq_range'] at this
   ·cases hf
  ·cases hf
theorem does_eqa (he : EnvR w ι m env a) {op : BinOp} {t u : TypeId} {x y : Operand} (ho : o.op = .binOp op t x y u) (hg : ¬ P.eqGuardType P.depth t = true) {ks : List (Option IntKind)} (hks : flatT P 20 t = some ks) (ha : aggT P t = some true) {i : I}
  (hi : (op = .eql ∧ i = .eqa false ks (trO x) (trO y)) ∨ (op = .neq ∧ i = .eqa true ks (trO x) (trO y))) {v : V} (hs : stepQ env m i = some v) : Does P w ι m a o v := by
 have hx := ev_VR he x
 have hy := ev_VR he y
 have key : ∀ ne, stepQ env m (.eqa ne ks (trO x) (trO y)) = some v → ∃ rs qs t', a.eval x = .agg rs ∧ a.eval y = .agg qs ∧ v = .c (.bool (if ne then !t' else t')) ∧ ∀ w', (Op.equalIn 10000 t (.agg rs) (.agg qs)).run P w' = .ok t' w' := by
  intro ne hs
  simp only [stepQ, guard'] at hs
  split at hs
  ·rename_i cs ds hp hq
   rw [hp] at hx
   rw [hq] at hy
   simp only [Option.bind_eq_some_iff, Option.some.injEq] at hs
   obtain ⟨t', ht', rfl⟩ := hs
   obtain ⟨rs, h1, h2⟩ := hx.of_agg
   obtain ⟨qs, g1, g2⟩ := hy.of_agg
   exact ⟨rs, qs, t', h1, g1, rfl, run_equalIn_flat 20 t ks hks 10000 (by omega) cs ds rs.toList qs.toList t' h2 g2 ht' _ _ (by simp [valOf, ha]) (by simp [valOf, ha])⟩
  ·cases hs
 have hg' : P.eqGuardType P.depth t = false := by simpa using hg
 rcases hi with ⟨rfl, rfl⟩ | ⟨rfl, rfl⟩
 ·obtain ⟨rs, qs, t', h1, h2, rfl, h3⟩ := key false hs
  exact ⟨_, .c (.bool _), fun w' hw => by simp [execOp, ho, h1, h2, run_eqGuard_agg (P := P) w' .eql t x y rs qs hg', run_eql_struct, h3 w']⟩
 ·obtain ⟨rs, qs, t', h1, h2, rfl, h3⟩ := key true hs
  exact ⟨_, .c (.bool _), fun w' hw => by simp [execOp, ho, h1, h2, run_eqGuard_agg (P := P) w' .neq t x y rs qs hg', run_neq_struct, h3 w']⟩
theorem does_bin (he : EnvR w ι m env a) {op : BinOp} {t u : TypeId} {x y : Operand} (ho : o.op = .binOp op t x y u) {i : I} (ht : trI P (.binOp op t x y u) = some i) {v : V}
  (hs : stepQ env m i = some v) : Does P w ι m a o v := by
 have hx := ev_VR he x
 have hy := ev_VR he y
 simp only [trI] at ht
 split at ht
 ·-- whole numbers
  split at ht
  ·rename_i hop
   injection ht with ht; subst ht
   simp only [stepQ, guard'] at hs
   split at hs
   ·rename_i k p k' q hp hq
    rw [hp] at hx
    rw [hq] at hy
    split at hs
    ·cases hs
    ·rename_i hb
     rcases hop with rfl | rfl
     ·injection hs with hs; subst hs
      refine ⟨_, .c (.int _ _), fun w' hw => ?_⟩
      simp [execOp, ho, hx.int, hy.int, run_eqGuard _ _ _ _ _ _ (.inl ⟨k, p, rfl⟩), binOp, Op.shift, hb]
     ·injection hs with hs; subst hs
      refine ⟨_, .c (.int _ _), fun w' hw => ?_⟩
      simp [execOp, ho, hx.int, hy.int, run_eqGuard _ _ _ _ _ _ (.inl ⟨k, p, rfl⟩), binOp, Op.shift, hb]
   ·cases hs
  injection ht with ht; subst ht
  simp only [stepQ, guard'] at hs
  generalize hvx : (trO x).ev env = vx at hx hs
  generalize hvy : (trO y).ev env = vy at hy hs
  unfold bin' at hs
  split at hs
  ·rename_i k p k' q
   split at hs
   ·rename_i hk
    subst hk
    obtain ⟨r, h1, h2⟩ := run_binI (P := P) (w := w) (ι := ι) (m := m) hs t
    refine ⟨r, h1, fun w' hw => ?_⟩
    simp [execOp, ho, hx.int, hy.int, run_eqGuard _ _ _ _ _ _ (.inl ⟨k, p, rfl⟩), h2 w']
   ·cases hs
  ·cases hs
 ·-- strings
  injection ht with ht; subst ht
  simp only [stepQ, guard'] at hs
  split at hs
  ·rename_i p q hp hq
   rw [hp] at hx
   rw [hq] at hy
   obtain ⟨r, h1, h2⟩ := run_binS (P := P) (w := w) (ι := ι) (m := m) hs t
   refine ⟨r, h1, fun w' hw => ?_⟩
   simp [execOp, ho, hx.str, hy.str, run_eqGuard _ _ _ _ _ _ (.inr (.inr ⟨p, rfl⟩)), h2 w']
  ·cases hs
 ·-- bools
  rename_i hb
  have hq := run_equalIn_bool' (P := P)
  split at ht
  ·injection ht with ht; subst ht
   simp only [stepQ, guard'] at hs
   split at hs
   ·rename_i p q hp hq'
    rw [hp] at hx
    rw [hq'] at hy
    injection hs with hs; subst hs
    refine ⟨.bool (p == q), .c (.bool _), fun w' hw => ?_⟩
    have hr : (binOp .eql t (.bool p) (.bool q)).run P w' = .ok (.bool (p == q)) w' := by
     simp [binOp, Op.equal, Op.maxDepth, hq w' 9999 t p q hb]
    simp [execOp, ho, hx.bool, hy.bool, run_eqGuard _ _ _ _ _ _ (.inr (.inl ⟨p, rfl⟩)), hr]
   ·cases hs
  ·injection ht with ht; subst ht
   simp only [stepQ, guard'] at hs
   split at hs
   ·rename_i p q hp hq'
    rw [hp] at hx
    rw [hq'] at hy
    injection hs with hs; subst hs
    refine ⟨.bool (!(p == q)), .c (.bool _), fun w' hw => ?_⟩
    have hr : (binOp .neq t (.bool p) (.bool q)).run P w' = .ok (.bool (!(p == q))) w' := by
     simp [binOp, Op.equal, Op.maxDepth, hq w' 9999 t p q hb]
    simp [execOp, ho, hx.bool, hy.bool, run_eqGuard _ _ _ _ _ _ (.inr (.inl ⟨p, rfl⟩)), hr]
   ·cases hs
  ·cases ht
 ·-- structs
  rename_i fields hu
  split at ht
  ·cases ht
  ·rename_i hg
   simp only [Option.bind_eq_some_iff] at ht
   obtain ⟨ks, hks, ht⟩ := ht
   exact does_eqa he ho hg hks (by simp [aggT, hu]) (by
    split at ht
    ·injection ht with ht; exact .inl ⟨rfl, ht.symm⟩
    ·injection ht with ht; exact .inr ⟨rfl, ht.symm⟩
    ·cases ht) hs
 ·-- arrays
  rename_i len elem hu
  split at ht
  ·cases ht
  ·rename_i hg
   simp only [Option.bind_eq_some_iff] at ht
   obtain ⟨ks, hks, ht⟩ := ht
   exact does_eqa he ho hg hks (by simp [aggT, hu]) (by
    split at ht
    ·injection ht with ht; exact .inl ⟨rfl, ht.symm⟩
    ·injection ht with ht; exact .inr ⟨rfl, ht.symm⟩
    ·cases ht) hs
 ·cases ht
theorem does_len (he : EnvR w ι m env a) {c : Call} (ho : o.op = .call c) (hc : c.callee = .builtin .len) {i : I} (ht : trI P (.call c) = some i) {v : V} (hs : stepQ env m i = some v) : Does P w ι m a o v := by
 simp only [trI, hc] at ht
 split at ht
 ·rename_i x t hargs htys
  have ha : c.args = #[x] := by apply Array.ext'; simpa using hargs
  have hty : c.argTypes = #[t] := by apply Array.ext'; simpa using htys
  have hx := ev_VR he x
  have hexec : ∀ r w', (Builtin.len_ #[t] o.type #[a.eval x]).run P w' = .ok r w' → (execOp a.eval o).run P w' = .ok (.value r) w' := by
   intro r w' hr
   simp [execOp, ho, resolve, hc, ha, hty, invoke, builtin, hr]
  split at ht
  ·rename_i e hu
   injection ht with ht; subst ht
   simp only [stepQ, guard'] at hs
   split at hs
   ·rename_i hp
    rw [hp] at hx
    injection hs with hs; subst hs
    exact ⟨_, .c (.int _ _), fun w' _ => hexec _ w' (by rw [hx.nils]; simp [Builtin.len_, run_underlying hu, goInt])⟩
   ·rename_i b off n tot hp
    rw [hp] at hx
    simp only [Option.bind_eq_some_iff, Option.some.injEq] at hs
    obtain ⟨blk, hl, rfl⟩ := hs
    obtain ⟨ad, cap, h1, _⟩ := hx.sl hl
    exact ⟨_, .c (.int _ _), fun w' _ => hexec _ w' (by rw [h1]; simp [Builtin.len_, run_underlying hu, goInt])⟩
   ·cases hs
  ·rename_i hu
   injection ht with ht; subst ht
   simp only [stepQ, guard'] at hs
   split at hs
   ·rename_i s hp
    rw [hp] at hx
    injection hs with hs; subst hs
    exact ⟨_, .c (.int _ _), fun w' _ => hexec _ w' (by rw [hx.str]; simp [Builtin.len_, run_underlying hu, goInt])⟩
   ·cases hs
  ·rename_i n e hu
   injection ht with ht; subst ht
   simp only [stepQ, guard', Option.some.injEq, Opd.ev] at hs
   subst hs
   exact ⟨_, .c (.int _ _), fun w' _ => hexec _ w' (by simp [Builtin.len_, run_underlying hu, goInt])⟩
  ·cases ht
 ·cases ht
theorem run_sliceBound {x : Value} {k : IntKind} {i : Int} (hx : x = .int k i) {y : Nat} (h0 : 0 ≤ i) (h1 : i ≤ y) (code : BoundsCode) (w : World) : (Instr.sliceBound x y code).run P w = .ok i.toNat w := by
 subst hx
 simp [Instr.sliceBound, asIntOf, h0, h1]
theorem run_bounds (he : EnvR w ι m env a) {lo hi : Option Operand} {len cap : Nat} {l h : Int} (hlo : lo' env (lo.map trO) = some l) (hhi : hi' env len (hi.map trO) = some h) (h0 : 0 ≤ l) (h1 : l ≤ h) (h2 : h ≤ cap) (sl : Bool) (w' : World) :
  (Instr.sliceBounds sl len cap (lo.map a.eval) (hi.map a.eval) none).run P w' = .ok (l.toNat, h.toNat, cap) w' := by
 have hH : ∀ (code : BoundsCode), (match hi.map a.eval with | some v => Instr.sliceBound v cap code | none => pure len : Sem Nat).run P w' = .ok h.toNat w' := by
  intro code
  cases hi with
  | none =>
   simp only [Option.map_none, hi', Option.some.injEq] at hhi
   simp [← hhi]
  | some x =>
   simp only [Option.map_some, hi'] at hhi
   obtain ⟨k, hk⟩ := int?_some hhi
   have hx := ev_VR he x
   rw [hk] at hx
   simp only [Option.map_some]
   exact run_sliceBound hx.int (by omega) h2 code w'
 have hL : ∀ (code : BoundsCode), (match lo.map a.eval with | some v => Instr.sliceBound v h.toNat code | none => pure 0 : Sem Nat).run P w' = .ok l.toNat w' := by
  intro code
  cases lo with
  | none =>
   simp only [Option.map_none, lo', Option.some.injEq] at hlo
   simp [← hlo]
  | some x =>
   simp only [Option.map_some, lo'] at hlo
   obtain ⟨k, hk⟩ := int?_some hlo
   have hx := ev_VR he x
   rw [hk] at hx
   simp only [Option.map_some]
   exact run_sliceBound hx.int h0 (by omega) code w'
 unfold Instr.sliceBounds
 cases hi with
 | none =>
  have hH' := hH .index
  simp only [Option.map_none] at hH' ⊢
  simp only [Sem.run_bind, Sem.run_pure, Result.andThen_ok]
  have hh : len = h.toNat := by simpa using hH'
  rw [hh]
  cases lo with
  | none =>
   have := hL .index
   simp only [Option.map_none] at this ⊢
   have hl : 0 = l.toNat := by simpa using this
   simp [← hl]
  | some y =>
   have := hL (if (none : Option Value).isSome then .slice3C else .sliceB)
   simp only [Option.map_some] at this
   simp at this
   simp [this]
 | some x =>
  have hH' := hH (if sl then .sliceAcap else .sliceAlen)
  simp only [Option.map_some] at hH' ⊢
  simp only [Sem.run_bind, Sem.run_pure, Result.andThen_ok, hH']
  cases lo with
  | none =>
   have := hL .index
   simp only [Option.map_none] at this ⊢
   have hl : 0 = l.toNat := by simpa using this
   simp [← hl]
  | some y =>
   have := hL (if (none : Option Value).isSome then .slice3C else .sliceB)
   simp only [Option.map_some] at this
   simp at this
   simp [this]
theorem does_slice (he : EnvR w ι m env a) {t : TypeId} {x : Operand} {lo hi mx : Option Operand} (ho : o.op = .slice t x lo hi mx) {i : I} (ht : trI P (.slice t x lo hi mx) = some i) {v : V} (hs : stepQ env m i = some v) : Does P w ι m a o v := by
 have hx := ev_VR he x
 simp only [trI] at ht
 split at ht
 ·-- an array's
  rename_i n elem hu
  simp only [Option.map_eq_some_iff] at ht
  obtain ⟨esz, hsz, rfl⟩ := ht
  simp only [stepQ, guard'] at hs
  split at hs
  ·rename_i b o' tot hp
   rw [hp] at hx
   simp only [Option.bind_eq_some_iff] at hs
   obtain ⟨blk, hl, hs⟩ := hs
   split at hs
   ·rename_i hz
    simp only [Option.bind_eq_some_iff] at hs
    obtain ⟨l, hlo, h, hhi, hs⟩ := hs
    split at hs
    ·rename_i hb
     obtain ⟨h0, h1, h2, h3⟩ := hb
     injection hs with hs; subst hs
     refine ⟨.slice (some (atA ι b (o' + l.toNat * esz))) (h.toNat - l.toNat) (n - l.toNat), .c (.sl rfl (live_some hl).1 (by rw [(live_some hl).2]; exact Nat.le_refl _) (hx.pal (live_some hl).1) fun _ => ⟨_, n - l.toNat, by congr 1; omega, fun _ => rfl, by omega, by unfold maxLen; omega, fun hq => by omega⟩), fun w' hw => ?_⟩
     have hne : ¬ (n = l.toNat) := by omega
     simp [execOp, ho, hx.ptr hl, Instr.sliceAt, run_underlying hu, Instr.sureAddr, run_bounds (P := P) he hlo hhi h0 h1 h2 false w', run_sizeOf hsz, hne, atA_add]
    ·cases hs
   ·cases hs
  ·cases hs
 ·-- a slice's
  rename_i elem hu
  simp only [Option.map_eq_some_iff] at ht
  obtain ⟨esz, hsz, rfl⟩ := ht
  simp only [stepQ, guard'] at hs
  split at hs
  ·rename_i b o' len tot hp
   rw [hp] at hx
   simp only [Option.bind_eq_some_iff] at hs
   obtain ⟨blk, hl, hs⟩ := hs
   split at hs
   ·rename_i hz
    simp only [Option.bind_eq_some_iff] at hs
    obtain ⟨l, hlo, h, hhi, hs⟩ := hs
    split at hs
    ·rename_i hb
     obtain ⟨h0, h1, h2⟩ := hb
     injection hs with hs; subst hs
     obtain ⟨ad, cap, c1, c2, c3, c4, c5⟩ := hx.sl hl
     refine ⟨.slice (if cap = l.toNat then some ad else some (ad.add (l.toNat * esz))) (h.toNat - l.toNat) (cap - l.toNat), .c (.sl (by split <;> rfl) (live_some hl).1 (by rw [(live_some hl).2]; exact Nat.le_refl _) (hx.sal (live_some hl).1) fun _ => ⟨if cap = l.toNat then ad else ad.add (l.toNat * esz), cap - l.toNat, by split <;> (congr 1; omega), fun hq => ?_, by omega, by omega, fun hq hz' => ?_⟩), fun w' hw => ?_⟩
     ·have hlen : 0 < len ∨ o' = 0 := by
       rcases hq with hq | hq
       ·left; omega
       ·right
        exact Nat.eq_zero_of_add_eq_zero_right hq
      rw [c2 hlen]
      split
      ·rename_i hcl
       rcases hq with hq | hq
       ·omega
       ·have : l.toNat * esz = 0 := Nat.eq_zero_of_add_eq_zero_left hq
        rw [this, Nat.add_zero]
      ·exact atA_add b o' _
     ·have ho' : o' = 0 := Nat.eq_zero_of_add_eq_zero_right hz'
      have hle : l.toNat * esz = 0 := Nat.eq_zero_of_add_eq_zero_left hz'
      have hes : esz = blk.esz := by
       rcases hz with hz | hz
       ·omega
       ·exact hz
      have hl0 : l.toNat = 0 := by
       rcases Nat.mul_eq_zero.1 hle with h | h
       ·exact h
       ·omega
      rw [hl0, Nat.sub_zero]
      exact c5 hq ho'
     ·have hb' := run_bounds (P := P) (cap := cap) he hlo hhi h0 h1 (by omega) true w'
      simp [execOp, ho, c1, Instr.sliceAt, Instr.slice, run_underlying hu, hb', run_sizeOf hsz]
    ·cases hs
   ·cases hs
  ·rename_i hp
   rw [hp] at hx
   simp only [Option.bind_eq_some_iff] at hs
   obtain ⟨l, hlo, h, hhi, hs⟩ := hs
   split at hs
   ·rename_i hb
    obtain ⟨rfl, rfl⟩ := hb
    injection hs with hs; subst hs
    have hb' := run_bounds (P := P) (cap := 0) he hlo hhi (by omega) (by omega) (by omega) true
    refine ⟨_, .c .nils, fun w' hw => ?_⟩
    have hb2 := hb' w'
    simp at hb2
    simp [execOp, ho, hx.nils, Instr.sliceAt, Instr.slice, run_underlying hu, hb2, run_sizeOf hsz]
   ·cases hs
  ·cases hs
 ·cases ht
end
end Go.Proofs.YtfbeplbcaanimaaGreat
