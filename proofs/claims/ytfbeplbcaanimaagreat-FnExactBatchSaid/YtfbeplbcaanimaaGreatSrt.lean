/-
 The library's slices.Sort and slices.Grow at numbers, as calls that the abstract machine takes from outside: what they answer, and that it is so wherever the library's contracts lie.
-/
import Derived.Test.YtfbeplbcaanimaaGreatME
import Derived.Sort.OwnSortedInts
set_option linter.unusedVariables false
set_option linter.unusedSimpArgs false
namespace Go.Proofs.YtfbeplbcaanimaaGreat
open Go.RowKit Go.Sort
def unI : List C → Option (List Int)
 | [] => some []
 | .int .i64 x :: r => (unI r).map (x :: ·)
 | _ => none
theorem unI_ints : ∀ xs : List Int, unI (ints xs) = some xs
 | [] => rfl
 | x :: xs => by
  show (unI (ints xs)).map (x :: ·) = _
  rw [unI_ints xs]; rfl
theorem unI_some : ∀ {cs : List C} {xs : List Int}, unI cs = some xs → cs = ints xs
 | [], xs, h => by
  simp only [unI, Option.some.injEq] at h
  subst h; rfl
 | c :: cs, xs, h => by
  unfold unI at h
  split at h
  ·rename_i e; cases e
  ·rename_i x r e
   injection e with e1 e2
   subst e1 e2
   simp only [Option.map_eq_some_iff] at h
   obtain ⟨ys, h1, rfl⟩ := h
   rw [unI_some h1]; rfl
  ·cases h
def srt (xs : List Int) : List Int := xs.mergeSort fun x y => decide (x ≤ y)
theorem srt_len (xs : List Int) : (srt xs).length = xs.length := by simp [srt]
def sortF : List V → List Blk → Option Ret
 | [.c .nils], m => some ⟨.tup [], m, 0, 0⟩
 | [.c (.sl b off n tot)], m => (live m b tot).bind fun blk => if n = 0 then some ⟨.tup [], m, 0, 0⟩ else
   guard' (off = 0 ∧ tot = n ∧ blk.own = true ∧ n < 4611686018427387904) ((unI blk.cs).bind fun xs => some ⟨.tup [], m.set b { blk with cs := ints (srt xs) }, 0, m.length - b⟩)
 | _, _ => none
def growF (ty : TypeId) : List V → List Blk → Option Ret
 | [.c .nils, .c (.int .i64 n)], m => if n = 0 then some ⟨.c .nils, m, 0, 0⟩ else guard' (0 < n ∧ n * 8 ≤ 140737488355328) (some ⟨.c (.sl m.length 0 0 0), m ++ [⟨[], ty, 1, true⟩], 0, 0⟩)
 | _, _ => none
section
variable {P : Program} {f : FuncId}
theorem one_arg {args : List V} {ras : List Value} {w : World} {ι : Nat → Nat × Nat} {m : List Blk} {v : V} (hl : [v].length = ras.length) (ha : ∀ (j : Nat) (x : V), [v][j]? = some x → ∃ r, ras[j]? = some r ∧ VR w ι m x r) : ∃ r, ras = [r] ∧ VR w ι m v r := by
 match ras, hl with
 | [r], _ =>
  obtain ⟨r', h1, h2⟩ := ha 0 v rfl
  simp only [List.getElem?_cons_zero, Option.some.injEq] at h1
  subst h1
  exact ⟨r, rfl, h2⟩
theorem two_args {ras : List Value} {w : World} {ι : Nat → Nat × Nat} {m : List Blk} {v u : V} (hl : [v, u].length = ras.length) (ha : ∀ (j : Nat) (x : V), [v, u][j]? = some x → ∃ r, ras[j]? = some r ∧ VR w ι m x r) : ∃ r s, ras = [r, s] ∧ VR w ι m v r ∧ VR w ι m u s := by
 match ras, hl with
 | [r, s], _ =>
  obtain ⟨r', h1, h2⟩ := ha 0 v rfl
  obtain ⟨s', h3, h4⟩ := ha 1 u rfl
  simp only [List.getElem?_cons_zero, List.getElem?_cons_succ, Option.some.injEq] at h1 h3
  subst h1 h3
  exact ⟨r, s, rfl, h2, h4⟩
theorem VR_tup0 {w : World} {ι : Nat → Nat × Nat} {m : List Blk} : VR w ι m (.tup []) (.tuple #[]) := .tup (by simp) (by simp)
theorem sort_ok (hs : ∀ (blk off cap : Nat) (zs : List Int) (w : World), Holds (Value.int .i64) w blk off zs.toArray → blk < w.heap.size → zs.length < 4611686018427387904 →
      Calls P f #[.slice (some ⟨blk, off, none⟩) zs.length cap] w fun e w' => e = .returned (.tuple #[]) ∧ ∃ n os, w' = grow (putRow (Value.int .i64) (Sort.ahead w n) blk off (zs.mergeSort fun x y => decide (x ≤ y)).toArray) os)
  (hn : ∀ (p : Option Addr) (cap : Nat) (w : World), Calls P f #[.slice p 0 cap] w fun e w' => e = .returned (.tuple #[]) ∧ w' = w)
  {args : List V} {m : List Blk} {ret : Ret} (h : sortF args m = some ret) {base : Nat} {w : World} {ι : Nat → Nat × Nat} {ras : List Value} (s : Sim base w ι m) (hl : args.length = ras.length)
  (ha : ∀ (j : Nat) (v : V), args[j]? = some v → ∃ r, ras[j]? = some r ∧ VR w ι m v r) : Calls P f ras.toArray w (RetOk base w ι m ret) := by
 unfold sortF at h
 split at h
 ·obtain ⟨r, rfl, hr⟩ := one_arg (args := []) hl ha
  injection h with h
  subst h
  rw [hr.nils]
  refine (hn none 0 w).mono fun e w' ⟨h1, h2⟩ => ?_
  subst h2
  exact ⟨_, ι, h1, VR_tup0, MR.start s⟩
 ·rename_i b off n tot
  obtain ⟨r, rfl, hr⟩ := one_arg (args := []) hl ha
  simp only [Option.bind_eq_some_iff] at h
  obtain ⟨blk, hlv, h⟩ := h
  obtain ⟨ad, cap, x1, x5, x2, x3, x4⟩ := hr.sl hlv
  split at h
  ·rename_i h0
   injection h with h
   subst h
   subst h0
   rw [x1]
   refine (hn (some ad) cap w).mono fun e w' ⟨h1, h2⟩ => ?_
   subst h2
   exact ⟨_, ι, h1, VR_tup0, MR.start s⟩
  ·rename_i h0
   unfold guard' at h
   split at h
   ·rename_i hc
    obtain ⟨rfl, rfl, hown, hlt⟩ := hc
    simp only [Option.bind_eq_some_iff, Option.some.injEq] at h
    obtain ⟨xs, hxs, rfl⟩ := h
    have hcs := unI_some hxs
    have x5 := x5 (.inr rfl)
    subst x5
    obtain ⟨hb, ht⟩ := live_some hlv
    obtain ⟨g1, g2, rc, g3, g4, g5⟩ := s.own b blk hb hown
    have hblt : b < m.length := (List.getElem?_eq_some_iff.1 hb).1
    have hat : atA ι b 0 = ⟨(ι b).1, 0, none⟩ := by simp [atA, g2]
    have hlen : xs.length = tot := by rw [ht, hcs, ints_len]
    have htk : rc.toList.take xs.length = xs.map (Value.int .i64) := by
     apply List.ext_getElem?
     intro j
     by_cases hj : j < xs.length
     ·rw [List.getElem?_take_of_lt hj, Array.getElem?_toList]
      obtain ⟨r, q1, q2, _⟩ := g5 j (ci (nth xs j)) (by rw [hcs]; exact ints_get' hj)
      cases q2
      rw [q1]
      simp [nth, hj, List.getD_eq_getElem?_getD]
     ·rw [List.getElem?_take_eq_none (by omega), List.getElem?_eq_none (by simp; omega)]
    have hglt : (ι b).1 < w.heap.size := (Array.getElem?_eq_some_iff.1 g3).1
    have hcall := hs (ι b).1 0 cap xs w (holds_of_blockI g3 htk) hglt (by omega)
    rw [x1, hat, ← hlen]
    refine hcall.mono fun e w' ⟨h1, n, os, h2⟩ => ?_
    subst h2
    have hrow := heap_sortedI (w := w) (g := (ι b).1) (n := n) (os := os) (srt xs).toArray g3
    have hgr := grownBy_sortedI (w := w) (g := (ι b).1) (n := n) (os := os) (srt xs).toArray
    have hsz : sizeAt (grow (putRow (Value.int .i64) (Sort.ahead w n) (ι b).1 0 (srt xs).toArray) os) (ι b).1 = sizeAt w (ι b).1 := by
     unfold sizeAt
     rw [hrow, g3]
     simp [putCells]
    have hrcl : xs.length ≤ rc.size := by rw [hlen, ht]; exact g4
    obtain ⟨ι', i1, _, i2, i3⟩ := (MR.start s).upd (w' := grow (putRow (Value.int .i64) (Sort.ahead w n) (ι b).1 0 (srt xs).toArray) os) (m' := m.set b { blk with cs := ints (srt xs) }) (b := b) (g := (ι b).1) (blk' := { blk with cs := ints (srt xs) })
     (rc := putCells (Value.int .i64) 0 (srt xs).toArray rc) (e' := 0) (wr' := m.length - b)
     (fun j => get_set_one hblt j) hgr.os hgr.tape hgr.output hgr.size (fun q hq => by
      by_cases e0 : q = (ι b).1
      ·exact .inr ⟨blk, hb, hown, e0.symm⟩
      ·exact .inl (hgr.block q hq (fun h => e0 (by first | exact (Option.some.inj h).symm | exact Option.some.inj h))))
     (.inr ⟨blk, hb, hown, rfl, by simp [hcs, ints_len, srt_len], fun _ => ⟨rfl, hsz⟩⟩) hown (.inl ⟨rfl, hblt⟩) hrow (by simp [putCells, ints_len, srt_len]; omega)
     (fun w'' i' m'' hev j c hj => by
      have hjl : j < (srt xs).length := by
       have := (List.getElem?_eq_some_iff.1 hj).1
       rwa [ints_len] at this
      simp only at hj
      rw [ints_get' hjl] at hj
      injection hj with hj
      subst hj
      have hput := take_putCellsI rc (srt xs) (by rw [srt_len]; exact hrcl)
      have h3 : ((putCells (Value.int .i64) 0 (srt xs).toArray rc).toList.take (srt xs).length)[j]? = ((srt xs).map (Value.int .i64))[j]? := by rw [hput]
      rw [List.getElem?_take_of_lt hjl, Array.getElem?_toList] at h3
      refine ⟨Value.int .i64 (nth (srt xs) j), ?_, .int _ _, rfl⟩
      rw [h3]
      simp [nth, hjl, List.getD_eq_getElem?_getD])
     ⟨Nat.zero_le _, by omega⟩ (fun c hc => by
      left
      obtain ⟨j, hj⟩ := List.getElem?_of_mem hc
      have hjl : j < (srt xs).length := by
       have := (List.getElem?_eq_some_iff.1 hj).1
       rwa [ints_len] at this
      simp only at hj
      rw [ints_get' hjl] at hj
      injection hj with hj
      subst hj
      exact Nat.le_refl _) (Nat.le_refl _)
    exact ⟨_, ι', h1, VR_tup0, i3⟩
   ·cases h
 ·cases h
theorem grow_ok {ty : TypeId} (h0 : ∀ (w : World), Calls P f #[.slice none 0 0, .int .i64 ((0 : Nat) : Int)] w fun e w' => e = .returned (.slice none 0 0) ∧ w' = w)
  (hg : ∀ (n : Nat) (w : World), 0 < n → n * 8 ≤ 140737488355328 → Calls P f #[.slice none 0 0, .int .i64 (n : Int)] w fun e w' => ∃ cap cs, cs.size = cap ∧ n ≤ cap ∧ cap ≤ maxLen ∧ e = .returned (.slice (some ⟨w.heap.size, 0, none⟩) 0 cap) ∧ w' = w.drew.alloc (.cells cs ty))
  {args : List V} {m : List Blk} {ret : Ret} (h : growF ty args m = some ret) {base : Nat} {w : World} {ι : Nat → Nat × Nat} {ras : List Value} (s : Sim base w ι m) (hl : args.length = ras.length)
  (ha : ∀ (j : Nat) (v : V), args[j]? = some v → ∃ r, ras[j]? = some r ∧ VR w ι m v r) : Calls P f ras.toArray w (RetOk base w ι m ret) := by
 unfold growF at h
 split at h
 ·rename_i n
  obtain ⟨r, q, rfl, hr, hq⟩ := two_args hl ha
  rw [hr.nils, hq.int]
  split at h
  ·rename_i e0
   injection h with h
   subst h e0
   refine (h0 w).mono fun e w' ⟨h1, h2⟩ => ?_
   subst h2
   exact ⟨_, ι, h1, .c .nils, MR.start s⟩
  ·unfold guard' at h
   split at h
   ·rename_i hc
    injection h with h
    subst h
    obtain ⟨k, rfl⟩ : ∃ k : Nat, n = k := ⟨n.toNat, by omega⟩
    refine (hg k w (by omega) (by omega)).mono fun e w' ⟨cap, cs, hcs, hkc, hcm, h1, h2⟩ => ?_
    subst h2
    have hnew : (w.drew.alloc (.cells cs ty)).heap[w.heap.size]? = some (.cells cs ty (0, 0)) := heap_alloc_new w.drew _
    obtain ⟨ι', i1, _, i2, i3⟩ := (MR.start s).upd (w' := w.drew.alloc (.cells cs ty)) (m' := m ++ [⟨[], ty, 1, true⟩]) (b := m.length) (g := w.heap.size) (blk' := ⟨[], ty, 1, true⟩) (rc := cs) (e' := 0) (wr' := 0)
     (fun j => get_append_one j) rfl rfl rfl (by simp) (fun q hq => .inl (heap_alloc_old w.drew _ hq)) (.inl rfl) rfl (.inr (Nat.le_refl _)) hnew (Nat.zero_le _)
     (fun _ _ _ _ j c hj => by simp at hj) ⟨Nat.le_refl _, by omega⟩ (fun c hc => by cases hc) (Nat.le_refl _)
    refine ⟨_, ι', h1, .c (.sl rfl (blk := ⟨[], ty, 1, true⟩) (by simp) (Nat.le_refl _) ⟨.inl rfl⟩ fun _ => ⟨_, cap, rfl, fun _ => by simp [atA, i1], Nat.zero_le _, hcm, fun _ _ => ?_⟩), i3⟩
    rw [i1]
    unfold sizeAt
    rw [hnew]
    simp [hcs]
   ·cases h
 ·cases h
end
end Go.Proofs.YtfbeplbcaanimaaGreat
