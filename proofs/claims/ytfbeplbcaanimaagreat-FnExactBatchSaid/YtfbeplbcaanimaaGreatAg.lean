/-
 Arguments of the laws, of whatever plain data: numbers, bools, texts, structs, arrays and slices of these, as memory that is only read.
-/
import Derived.Test.YtfbeplbcaanimaaGreatME
import Derived.ChangeSlices
set_option linter.unusedVariables false
set_option linter.unusedSimpArgs false
namespace Go.Proofs.YtfbeplbcaanimaaGreat
open Go.RowKit Go.WideShapes
inductive Sh where
 | bl | nm (k : IntKind) | tx | li (e : List Sh)
mutual
def Sh.ok (m : List Blk) : Sh → C → Prop
 | .bl, c => ∃ x, c = .bool x
 | .nm k, c => ∃ n, c = .int k n ∧ (Lit.int k n).wf = true
 | .tx, c => ∃ x : ByteArray, c = .str x ∧ x.size ≤ maxLen
 | .li e, c => c = .nils ∨ ∃ b off len tot blk, c = .sl b off len tot ∧ live m b tot = some blk ∧ blk.esz = 0 ∧ len ≤ maxLen ∧ ∀ i, i < len → Sh.okL m e ((blk.cs.drop (off + i * e.length)).take e.length)
def Sh.okL (m : List Blk) : List Sh → List C → Prop
 | [], cs => cs = []
 | s :: r, cs => ∃ c cs', cs = c :: cs' ∧ Sh.ok m s c ∧ Sh.okL m r cs'
end
mutual
theorem Sh.ok_grow {m l : List Blk} : ∀ (s : Sh) (c : C), Sh.ok m s c → Sh.ok (m ++ l) s c
 | .bl, _, h => h
 | .nm _, _, h => h
 | .tx, _, h => h
 | .li e, c, h => by
  unfold Sh.ok at h ⊢
  rcases h with h | ⟨b, off, len, tot, blk, h1, h2, h3, h4, h5⟩
  ·exact .inl h
  ·exact .inr ⟨b, off, len, tot, blk, h1, live_grow h2, h3, h4, fun i hi => Sh.okL_grow e _ (h5 i hi)⟩
theorem Sh.okL_grow {m l : List Blk} : ∀ (ss : List Sh) (cs : List C), Sh.okL m ss cs → Sh.okL (m ++ l) ss cs
 | [], _, h => by unfold Sh.okL at h ⊢; exact h
 | s :: r, cs, h => by
  unfold Sh.okL at h ⊢
  obtain ⟨c, cs', h1, h2, h3⟩ := h
  exact ⟨c, cs', h1, Sh.ok_grow s c h2, Sh.okL_grow r cs' h3⟩
end
theorem Sh.okL_append {m : List Blk} : ∀ {s1 s2 : List Sh} {c1 c2 : List C}, Sh.okL m s1 c1 → Sh.okL m s2 c2 → Sh.okL m (s1 ++ s2) (c1 ++ c2)
 | [], s2, c1, c2, h1, h2 => by unfold Sh.okL at h1; subst h1; exact h2
 | s :: r, s2, c1, c2, h1, h2 => by
  unfold Sh.okL at h1
  obtain ⟨c, cs', rfl, h3, h4⟩ := h1
  rw [List.cons_append, List.cons_append]
  unfold Sh.okL
  exact ⟨c, _, rfl, h3, Sh.okL_append h4 h2⟩
theorem Sh.okL_split {m : List Blk} : ∀ {s1 s2 : List Sh} {cs : List C}, Sh.okL m (s1 ++ s2) cs → Sh.okL m s1 (cs.take s1.length) ∧ Sh.okL m s2 (cs.drop s1.length)
 | [], s2, cs, h => ⟨by unfold Sh.okL; simp, by simpa using h⟩
 | s :: r, s2, cs, h => by
  rw [List.cons_append] at h
  unfold Sh.okL at h
  obtain ⟨c, cs', rfl, h3, h4⟩ := h
  obtain ⟨k1, k2⟩ := Sh.okL_split h4
  refine ⟨?_, by simpa using k2⟩
  rw [List.length_cons, List.take_succ_cons]
  unfold Sh.okL
  exact ⟨c, _, rfl, h3, k1⟩
theorem Sh.okL_rep {m : List Blk} {e : List Sh} : ∀ (n : Nat) {cs : List C}, Sh.okL m (List.replicate n e).flatten cs → ∀ i, i < n → Sh.okL m e ((cs.drop (i * e.length)).take e.length)
 | 0, _, _, i, hi => by omega
 | n + 1, cs, h, i, hi => by
  rw [List.replicate_succ, List.flatten_cons] at h
  obtain ⟨k1, k2⟩ := Sh.okL_split h
  cases i with
  | zero => simpa using k1
  | succ i =>
   have := Sh.okL_rep n k2 i (by omega)
   rwa [List.drop_drop, show e.length + i * e.length = (i + 1) * e.length by rw [Nat.succ_mul, Nat.add_comm]] at this
theorem atP_nat' {a : Addr} (h : a.spot = none) (j : Nat) : a.add j = ⟨a.block, a.off + j, none⟩ := by
 obtain ⟨b, o, s⟩ := a
 simp only at h
 subst h
 unfold Addr.add
 by_cases hj : j = 0
 ·subst hj; rfl
 ·rw [if_neg hj]
theorem cell_spot' {w : World} {a : Addr} {v : Value} (h : w.cell? a = some v) : a.spot = none ∧ a.block < w.heap.size := by
 unfold World.cell? at h
 split at h
 ·rename_i he
  split at h
  ·cases h
  ·rename_i hs
   exact ⟨by simpa using hs, (Array.getElem?_eq_some_iff.1 he).1⟩
 ·cases h
section
variable {H : Type} {enc : TypeId × Value → H} {P : Program} {w : World}
theorem evo_more {m0 l : List Blk} {ι0 ι : Nat → Nat × Nat} (h : ∀ j, j < m0.length → ι j = ι0 j) : Evo w ι0 m0 w ι (m0 ++ l) := by
 intro b blk hb
 have hlt := (List.getElem?_eq_some_iff.1 hb).1
 exact ⟨blk, by rw [List.getElem?_append_left hlt]; exact hb, fun _ => ⟨rfl, rfl, Nat.le_refl _, fun _ => ⟨h b hlt, fun _ => rfl⟩⟩⟩
def roM (m : List Blk) : Prop := ∀ (j : Nat) (blk : Blk), m[j]? = some blk → blk.own = false
theorem sim_one {base : Nat} {m0 : List Blk} {blk : Blk} {ι0 ι : Nat → Nat × Nat} (s0 : Sim base w ι0 m0) (ho0 : roM m0) (h : ∀ j, j < m0.length → ι j = ι0 j) (ho : blk.own = false) (hz : blk.esz = 0) (hlt : blk.cs ≠ [] → (ι m0.length).1 < base)
  (hl : ∀ (q : Nat) (c : C), blk.cs[q]? = some c → ∃ r, w.cell? (atA ι m0.length q) = some r ∧ CR w ι (m0 ++ [blk]) c r ∧ r.oneCell' = true) : Sim base w ι (m0 ++ [blk]) ∧ roM (m0 ++ [blk]) := by
 have hown : roM (m0 ++ [blk]) := by
  intro j b hj
  by_cases h1 : j < m0.length
  ·rw [List.getElem?_append_left h1] at hj; exact ho0 j b hj
  ·rw [List.getElem?_append_right (by omega)] at hj
   cases hq : j - m0.length with
   | zero => rw [hq] at hj; simp at hj; subst hj; exact ho
   | succ n => rw [hq] at hj; simp at hj
 refine ⟨⟨s0.le, fun j b hj ho => absurd ho (by rw [hown j b hj]; exact Bool.false_ne_true), fun j b hj ho hz => ?_, fun j b hj ho hz' => ?_, fun b b' blk blk' hb hb' ho => absurd ho (by rw [hown b blk hb]; exact Bool.false_ne_true)⟩, hown⟩
 ·by_cases h1 : j < m0.length
  ·rw [List.getElem?_append_left h1] at hj
   obtain ⟨k1, k2⟩ := s0.ro j b hj ho hz
   refine ⟨by rw [h j h1]; exact k1, fun q c hq => ?_⟩
   obtain ⟨r, r1, r2, r3⟩ := k2 q c hq
   refine ⟨r, ?_, r2.evo (evo_more h), r3⟩
   rw [← r1]
   unfold atA
   rw [h j h1]
  ·rw [List.getElem?_append_right (by omega)] at hj
   cases hq : j - m0.length with
   | zero =>
    rw [hq] at hj; simp at hj; subst hj
    have : j = m0.length := by omega
    subst this
    exact ⟨hlt, hl⟩
   | succ n => rw [hq] at hj; simp at hj
 ·by_cases h1 : j < m0.length
  ·rw [List.getElem?_append_left h1] at hj; exact s0.non j b hj ho hz'
  ·rw [List.getElem?_append_right (by omega)] at hj
   cases hq : j - m0.length with
   | zero => rw [hq] at hj; simp at hj; subst hj; exact absurd hz hz'
   | succ n => rw [hq] at hj; simp at hj
structure Got (w : World) (m0 : List Blk) (ι0 : Nat → Nat × Nat) (ks : List Sh) (vs : List Value) (cs : List C) (l : List Blk) (ι : Nat → Nat × Nat) : Prop where
 ok : Sh.okL (m0 ++ l) ks cs
 ar : AR w ι (m0 ++ l) cs vs
 sim : Sim w.heap.size w ι (m0 ++ l)
 ro : roM (m0 ++ l)
 same : ∀ j, j < m0.length → ι j = ι0 j
def Src (w : World) (ks : List Sh) (vs : List Value) : Prop := ∀ (m0 : List Blk) (ι0 : Nat → Nat × Nat), Sim w.heap.size w ι0 m0 → roM m0 → ∃ cs l ι, Got w m0 ι0 ks vs cs l ι
theorem Src.nil : Src w [] [] := fun m0 ι0 s0 ho => ⟨[], [], ι0, ⟨by unfold Sh.okL; rfl, ⟨rfl, fun j c hj => by simp at hj⟩, by rw [List.append_nil]; exact s0, by rw [List.append_nil]; exact ho, fun _ _ => rfl⟩⟩
theorem Src.append {k1 k2 : List Sh} {v1 v2 : List Value} (h1 : Src w k1 v1) (h2 : Src w k2 v2) : Src w (k1 ++ k2) (v1 ++ v2) := by
 intro m0 ι0 s0 ho
 obtain ⟨c1, l1, ι1, g1⟩ := h1 m0 ι0 s0 ho
 obtain ⟨c2, l2, ι2, g2⟩ := h2 (m0 ++ l1) ι1 g1.sim g1.ro
 refine ⟨c1 ++ c2, l1 ++ l2, ι2, ?_⟩
 have hs : ∀ j, j < m0.length → ι2 j = ι0 j := fun j hj => by rw [g2.same j (by rw [List.length_append]; omega), g1.same j hj]
 exact ⟨by rw [← List.append_assoc]; exact Sh.okL_append (Sh.okL_grow _ _ g1.ok) g2.ok, by rw [← List.append_assoc]; exact (g1.ar.evo (evo_more g2.same)).append g2.ar, by rw [← List.append_assoc]; exact g2.sim, by rw [← List.append_assoc]; exact g2.ro, hs⟩
theorem Src.one {s : Sh} {v : Value} {c : C} (h1 : ∀ m, Sh.ok m s c) (h2 : ∀ i m, CR w i m c v) (h3 : v.oneCell' = true) : Src w [s] [v] := by
 intro m0 ι0 s0 ho
 refine ⟨[c], [], ι0, ?_⟩
 refine ⟨by unfold Sh.okL; exact ⟨c, [], rfl, h1 _, by unfold Sh.okL; rfl⟩, ⟨rfl, fun j x hj => ?_⟩, by rw [List.append_nil]; exact s0, by rw [List.append_nil]; exact ho, fun _ _ => rfl⟩
 cases j with
 | zero => simp at hj; subst hj; exact ⟨v, rfl, h2 _ _, h3⟩
 | succ n => simp at hj
theorem Src.elems {e : List Sh} {a : Addr} {n : Nat} (h : ∀ i, i < n → ∃ vs, Src w e vs ∧ vs.length = e.length ∧ ∀ j, j < e.length → w.cell? ((a.add (i * e.length)).add j) = vs[j]?) :
  ∃ vs, Src w (List.replicate n e).flatten vs ∧ vs.length = n * e.length ∧ ∀ q, q < n * e.length → w.cell? (a.add q) = vs[q]? := by
 induction n with
 | zero => exact ⟨[], Src.nil, by simp, fun q hq => by simp at hq⟩
 | succ n ih =>
  obtain ⟨vs, g1, g2, g3⟩ := ih fun i hi => h i (by omega)
  obtain ⟨us, k1, k2, k3⟩ := h n (by omega)
  refine ⟨vs ++ us, ?_, by rw [List.length_append, g2, k2, Nat.succ_mul], fun q hq => ?_⟩
  ·rw [List.replicate_succ', List.flatten_append]
   refine g1.append ?_
   simpa using k1
  ·rw [Nat.succ_mul] at hq
   by_cases hlt : q < n * e.length
   ·rw [List.getElem?_append_left (by omega)]; exact g3 q hlt
   ·rw [List.getElem?_append_right (by omega), g2, ← k3 (q - n * e.length) (by omega)]
    congr 1
    have : ∀ (a : Addr) (i j : Nat), (a.add i).add j = a.add (i + j) := fun a i j => by
     unfold Addr.add
     obtain ⟨b, o, s⟩ := a
     by_cases hi : i = 0 <;> by_cases hj : j = 0 <;> cases s <;> simp_all <;> omega
    rw [this]
    congr 1
    omega
def shFs (P : Program) (F : TypeId → Option (List Sh)) : List Field → Nat → Option (List Sh)
 | [], _ => some []
 | f :: r, off => if f.offset = off then (F f.type).bind fun ks => if szT P f.type = some ks.length then (shFs P F r (off + ks.length)).bind fun l => some (ks ++ l) else none else none
def shT (P : Program) : Nat → TypeId → Option (List Sh)
 | 0, _ => none
 | d + 1, t => match P.underlying t with
  | some .bool => if szT P t = some 1 then some [.bl] else none
  | some (.int k) => if szT P t = some 1 then some [.nm k] else none
  | some .string => if szT P t = some 1 then some [.tx] else none
  | some (.struct fields) => (shFs P (shT P d) fields.toList 0).bind fun ks => if szT P t = some ks.length then some ks else none
  | some (.array len elem) => (shT P d elem).bind fun ks => if szT P elem = some ks.length ∧ szT P t = some (len * ks.length) then some (List.replicate len ks).flatten else none
  | some (.slice e) => (shT P d e).bind fun ks => if szT P e = some ks.length ∧ 0 < ks.length then some [.li ks] else none
  | _ => none
theorem cells_of {t : TypeId} {n : Nat} (h : szT P t = some n) : P.cellsOf t = n := by
 unfold szT at h
 unfold Program.cellsOf
 rw [h]; rfl
theorem trod_any' : ∀ (d : Nat) (t : TypeId) (ks : List Sh), shT P d t = some ks → ∀ (fuel : Nat) (cs : List Value) (x : DataW H × List MemPlace), DataW.trod enc P w 0 (fun _ => true) true fuel t cs = some x → Src w ks cs
 | 0, _, _, h => by cases h
 | d + 1, t, ks, hf => by
  intro fuel cs x h
  cases fuel with
  | zero => simp [DataW.trod] at h
  | succ fuel =>
   unfold shT at hf
   split at hf
   ·rename_i hu
    split at hf
    ·injection hf with hf; subst hf
     obtain ⟨b, rfl, _⟩ := DataW.trod_bool hu h
     exact Src.one (c := .bool b) (fun m => by unfold Sh.ok; exact ⟨b, rfl⟩) (fun _ _ => .bool b) rfl
    ·cases hf
   ·rename_i k hu
    split at hf
    ·injection hf with hf; subst hf
     obtain ⟨n, rfl, _, hw⟩ := DataW.trod_int hu h
     exact Src.one (c := .int k n) (fun m => by unfold Sh.ok; exact ⟨n, rfl, hw⟩) (fun _ _ => .int k n) rfl
    ·cases hf
   ·rename_i hu
    split at hf
    ·injection hf with hf; subst hf
     obtain ⟨s, rfl, _, hw⟩ := DataW.trod_string hu h
     exact Src.one (c := .str s) (fun m => by unfold Sh.ok; exact ⟨s, rfl, hw⟩) (fun _ _ => .str s) rfl
    ·cases hf
   ·rename_i fields hu
    simp only [Option.bind_eq_some_iff] at hf
    obtain ⟨ks', hfs, hf⟩ := hf
    split at hf
    ·rename_i hsz
     injection hf with hf; subst hf
     simp only [DataW.trod, hu] at h
     split at h
     ·rename_i hlen
      simp only [Option.map_eq_some_iff] at h
      obtain ⟨xs, hxs, _⟩ := h
      have hcell := cells_of hsz
      have go : ∀ (fs : List Field) (off : Nat) (ks : List Sh) (xs : List (DataW H × List MemPlace)), shFs P (shT P d) fs off = some ks → fs.mapM (fun f => DataW.trod enc P w 0 (fun _ => true) true fuel f.type ((cs.drop f.offset).take (P.cellsOf f.type))) = some xs → off + ks.length = cs.length → Src w ks (cs.drop off) := by
       intro fs
       induction fs with
       | nil =>
        intro off ks xs h1 h2 h3
        simp only [shFs, Option.some.injEq] at h1
        subst h1
        have : cs.drop off = [] := by simp at h3; simp [h3]
        rw [this]; exact Src.nil
       | cons f fs ih =>
        intro off ks xs h1 h2 h3
        simp only [shFs] at h1
        split at h1
        ·rename_i hn
         simp only [Option.bind_eq_some_iff] at h1
         obtain ⟨k1, hk1, h1⟩ := h1
         split at h1
         ·rename_i hs1
          simp only [Option.bind_eq_some_iff, Option.some.injEq] at h1
          obtain ⟨k2, hk2, rfl⟩ := h1
          rw [List.mapM_cons] at h2
          simp only [bind, Option.bind_eq_some_iff, pure, Option.some.injEq] at h2
          obtain ⟨y, hy, ys, hys, rfl⟩ := h2
          have g1 := trod_any' d f.type k1 hk1 fuel _ y hy
          have g2 := ih (off + k1.length) k2 ys hk2 hys (by simp at h3; omega)
          rw [hn, cells_of hs1] at g1
          have := g1.append g2
          rwa [← List.drop_drop, List.take_append_drop] at this
         ·cases h1
        ·cases h1
      have := go fields.toList 0 ks' xs hfs hxs (by omega)
      simpa using this
     ·cases h
    ·cases hf
   ·rename_i len elem hu
    simp only [Option.bind_eq_some_iff] at hf
    obtain ⟨k1, hk1, hf⟩ := hf
    split at hf
    ·rename_i hsz
     injection hf with hf; subst hf
     simp only [DataW.trod, hu] at h
     split at h
     ·rename_i hlen
      simp only [Option.map_eq_some_iff] at h
      obtain ⟨xs, hxs, _⟩ := h
      have hcell := cells_of hsz.2
      have hc1 := cells_of hsz.1
      have go : ∀ (n j : Nat) (xs : List (DataW H × List MemPlace)), (List.range' j n).mapM (fun i => DataW.trod enc P w 0 (fun _ => true) true fuel elem ((cs.drop (i * P.cellsOf elem)).take (P.cellsOf elem))) = some xs → (j + n) * k1.length = cs.length → Src w (List.replicate n k1).flatten (cs.drop (j * k1.length)) := by
       intro n
       induction n with
       | zero =>
        intro j xs h2 h3
        have : cs.drop (j * k1.length) = [] := by simp at h3; simp [h3]
        rw [this]; exact Src.nil
       | succ n ih =>
        intro j xs h2 h3
        rw [List.range'_succ, List.mapM_cons] at h2
        simp only [bind, Option.bind_eq_some_iff, pure, Option.some.injEq] at h2
        obtain ⟨y, hy, ys, hys, rfl⟩ := h2
        have g1 := trod_any' d elem k1 hk1 fuel _ y hy
        have g2 := ih (j + 1) ys hys (by rw [← h3]; congr 1; omega)
        rw [hc1] at g1
        have := g1.append g2
        rw [Nat.succ_mul, ← List.drop_drop, List.take_append_drop] at this
        rw [List.replicate_succ, List.flatten_cons]
        exact this
      have := go len 0 xs (by rw [← List.range_eq_range']; exact hxs) (by rw [Nat.zero_add]; omega)
      simpa using this
     ·cases h
    ·cases hf
   ·rename_i e hu
    simp only [Option.bind_eq_some_iff] at hf
    obtain ⟨k1, hk1, hf⟩ := hf
    split at hf
    ·rename_i hsz
     injection hf with hf; subst hf
     have hc1 := cells_of hsz.1
     rcases DataW.trod_slice hu h with ⟨rfl, _⟩ | ⟨a, len, cap, elems, rest, n, hn, rfl, _, _, hl, hm, hlen, hel, _, _⟩
     ·exact Src.one (c := .nils) (fun m => by unfold Sh.ok; exact .inl rfl) (fun _ _ => .nils) rfl
     ·obtain rfl : fuel = n := by omega
      intro m0 ι0 s0 ho
      by_cases h0 : len = 0
      ·subst h0
       obtain ⟨q1, q2⟩ := sim_one (blk := ⟨[], e, 0, false⟩) s0 ho (fun _ _ => rfl) rfl rfl (fun h => absurd rfl h) fun q c hq => by simp at hq
       refine ⟨[.sl m0.length 1 0 0], [⟨[], e, 0, false⟩], ι0, ⟨?_, ⟨rfl, fun j c hj => ?_⟩, q1, q2, fun _ _ => rfl⟩⟩
       ·unfold Sh.okL
        refine ⟨_, [], rfl, ?_, by unfold Sh.okL; rfl⟩
        unfold Sh.ok
        exact .inr ⟨m0.length, 1, 0, 0, ⟨[], e, 0, false⟩, rfl, by simp [live], rfl, Nat.zero_le _, fun i hi => by omega⟩
       ·cases j with
        | zero =>
         simp at hj; subst hj
         exact ⟨_, rfl, .sl rfl (blk := ⟨[], e, 0, false⟩) (by simp) (Nat.le_refl _) ⟨.inr rfl⟩ fun _ => ⟨_, _, rfl, fun h => by omega, Nat.zero_le _, hm, fun h => absurd h (Nat.lt_irrefl _)⟩, rfl⟩
        | succ n => simp at hj
      ·obtain ⟨vs, g1, g2, g3⟩ := Src.elems (w := w) (e := k1) (a := a) (n := len) fun i hi => by
        have hE := hel i hi
        rw [hc1] at hE
        rw [List.getElem?_eq_getElem (by omega)] at hE
        simp only [Option.bind_eq_some_iff] at hE
        obtain ⟨us, hc, hy⟩ := hE
        obtain ⟨_, u1, u2⟩ := World.cells?_some hc
        exact ⟨us, trod_any' d e k1 hk1 fuel us _ hy, u1, u2⟩
       obtain ⟨cs1, l1, ι1, G⟩ := g1 m0 ι0 s0 ho
       have hpos : 0 < len * k1.length := Nat.mul_pos (by omega) hsz.2
       have hcl : cs1.length = len * k1.length := by rw [G.ar.1, g2]
       have hfirst := g3 0 hpos
       rw [List.getElem?_eq_getElem (by omega)] at hfirst
       obtain ⟨hsp, hblk⟩ := cell_spot' hfirst
       have hsp' : a.spot = none := by simpa [Addr.add] using hsp
       have hb' : a.block < w.heap.size := by simpa [Addr.add] using hblk
       let ι : Nat → Nat × Nat := fun j => if j = (m0 ++ l1).length then (a.block, a.off) else ι1 j
       have hιs : ∀ j, j < (m0 ++ l1).length → ι j = ι1 j := fun j hj => by simp only [ι]; rw [if_neg (by omega)]
       have hιl : ι (m0 ++ l1).length = (a.block, a.off) := by simp [ι]
       have harr : AR w ι (m0 ++ l1 ++ [⟨cs1, e, 0, false⟩]) cs1 vs := G.ar.evo (evo_more hιs)
       obtain ⟨q1, q2⟩ := sim_one (blk := ⟨cs1, e, 0, false⟩) (ι := ι) G.sim G.ro hιs rfl rfl (fun _ => by rw [hιl]; exact hb') fun q c hq => by
        have hql : q < len * k1.length := by
         have := (List.getElem?_eq_some_iff.1 hq).1
         rw [hcl] at this
         exact this
        obtain ⟨r, r1, r2, r3⟩ := harr.2 q c hq
        refine ⟨r, ?_, r2, r3⟩
        rw [← r1, ← g3 q hql, atP_nat' hsp']
        unfold atA
        rw [hιl]
       refine ⟨[.sl (m0 ++ l1).length 0 len (len * k1.length)], l1 ++ [⟨cs1, e, 0, false⟩], ι, ?_⟩
       refine ⟨?_, ⟨rfl, fun j c hj => ?_⟩, by rw [← List.append_assoc]; exact q1, by rw [← List.append_assoc]; exact q2, fun j hj => by rw [hιs j (by rw [List.length_append]; omega), G.same j hj]⟩
       ·rw [← List.append_assoc]
        unfold Sh.okL
        refine ⟨_, [], rfl, ?_, by unfold Sh.okL; rfl⟩
        unfold Sh.ok
        refine .inr ⟨_, 0, len, len * k1.length, ⟨cs1, e, 0, false⟩, rfl, by simp [live, hcl], rfl, by omega, fun i hi => ?_⟩
        rw [Nat.zero_add]
        exact Sh.okL_rep len (Sh.okL_grow _ _ G.ok) i hi
       ·cases j with
        | zero =>
         simp at hj; subst hj
         refine ⟨_, rfl, ?_, rfl⟩
         rw [← List.append_assoc]
         refine .sl rfl (blk := ⟨cs1, e, 0, false⟩) (by simp) (by rw [hcl]; exact Nat.le_refl _) ⟨.inr rfl⟩ fun _ => ⟨_, _, rfl, fun _ => ?_, hl, hm, fun h => absurd h (Nat.lt_irrefl _)⟩
         have := atP_nat' hsp' 0
         rw [Addr.add, if_pos rfl] at this
         unfold atA
         rw [List.length_append] at hιl
         simp only [List.length_append, hιl]
         exact this
        | succ n => simp at hj
    ·cases hf
   ·cases hf
theorem arg_agg {b0 : Nat} {t : TypeId} {v : Value} {dd : DataW H} {p : List MemPlace} {ks : List Sh} {m0 : List Blk} {ι0 : Nat → Nat × Nat} (s0 : Sim w.heap.size w ι0 m0) (ho0 : roM m0) (hf : shT P 20 t = some ks) (ha : aggT P t = some true) (hv : Value.okWide P w .any b0 t v) (h : DataW.Trod enc P w 0 (fun _ => true) true t v dd p) :
  ∃ cs l ι, Sh.okL (m0 ++ l) ks cs ∧ Sim w.heap.size w ι (m0 ++ l) ∧ roM (m0 ++ l) ∧ VR w ι (m0 ++ l) (.agg cs) v ∧ Evo w ι0 m0 w ι (m0 ++ l) := by
 obtain ⟨fuel, hx⟩ := h
 have hagg : ∃ cs, v = .agg cs := by
  unfold aggT at ha
  cases hu : P.underlying t with
  | none => rw [hu] at ha; cases ha
  | some d =>
   rw [hu] at ha
   simp only [Value.okWide, hu] at hv
   cases d <;> simp at ha <;> (obtain ⟨cs, hcs, _⟩ := hv; exact ⟨cs, hcs⟩)
 obtain ⟨vs, rfl⟩ := hagg
 obtain ⟨cs, l, ι, G⟩ := trod_any' 20 t ks hf fuel _ _ hx m0 ι0 s0 ho0
 exact ⟨cs, l, ι, G.ok, G.sim, G.ro, .agg (by simpa [Value.cells] using G.ar), evo_more G.same⟩
theorem arg_sl {b0 : Nat} {t e : TypeId} {v : Value} {dd : DataW H} {p : List MemPlace} {ks : List Sh} {m0 : List Blk} {ι0 : Nat → Nat × Nat} (s0 : Sim w.heap.size w ι0 m0) (ho0 : roM m0) (hf : shT P 20 t = some [.li ks]) (hu : P.underlying t = some (.slice e)) (hv : Value.okWide P w .any b0 t v) (h : DataW.Trod enc P w 0 (fun _ => true) true t v dd p) :
  ∃ c l ι, Sh.ok (m0 ++ l) (.li ks) c ∧ Sim w.heap.size w ι (m0 ++ l) ∧ roM (m0 ++ l) ∧ VR w ι (m0 ++ l) (.c c) v ∧ Evo w ι0 m0 w ι (m0 ++ l) := by
 obtain ⟨fuel, hx⟩ := h
 obtain ⟨a0, len0, cap0, rfl⟩ := Go.WideShapes.okWide_slice hu hv
 obtain ⟨cs, l, ι, G⟩ := trod_any' 20 t _ hf fuel _ _ hx m0 ι0 s0 ho0
 have hok := G.ok
 unfold Sh.okL at hok
 obtain ⟨c, cs', rfl, h1, h2⟩ := hok
 unfold Sh.okL at h2
 subst h2
 obtain ⟨r, r1, r2, _⟩ := G.ar.2 0 c rfl
 simp only [Value.cells] at r1
 have : r = .slice a0 len0 cap0 := by simpa using r1.symm
 subst this
 exact ⟨c, l, ι, h1, G.sim, G.ro, .c r2, evo_more G.same⟩
end
end Go.Proofs.YtfbeplbcaanimaaGreat
