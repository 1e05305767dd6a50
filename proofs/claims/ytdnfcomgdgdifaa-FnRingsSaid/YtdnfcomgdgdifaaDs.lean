/-
  Rings drawn from bytes: every draw is a ring.
-/
import Derived.Test.YtdnfcomgdgdifaaDr
import Derived.Test.YtdnfcomgdgdifaaRA
set_option linter.unusedVariables false
set_option linter.unusedSimpArgs false
set_option maxHeartbeats 4000000
namespace Go.Proofs.Ytdnfcomgdgdifaa
variable {X : FuncId → List V → List Blk → Option Ret} {L : Nat}

def Good (r : R3) : Prop := ∃ l, isRing r l
theorem Good.put {r : R3} (h : Good r) (v : Int) : Good (ringPut r.1 r.2.1 r.2.2 v).1 := by
  obtain ⟨l, h⟩ := h
  cases hv : isVal v with
  | false => exact ⟨l, by unfold ringPut; rw [if_pos (.inr hv)]; exact h⟩
  | true =>
    by_cases hl : l.length < 8
    · exact ⟨_, (h.put hv hl).2⟩
    · have := h.len
      rw [h.full v hv (by omega)]
      exact ⟨l, h⟩
theorem Good.take {r : R3} (h : Good r) : Good (ringTake r.1 r.2.1 r.2.2).1 := by
  obtain ⟨l, h⟩ := h
  cases l with
  | nil => rw [h.none]; exact ⟨_, h⟩
  | cons x l => exact ⟨_, h.take.2⟩
theorem zero_ring (a : Int) : [ci 0, ci 0, ci 0, ci 0, ci 0, ci 0, ci 0, ci 0, ci a, ci 0] = ringV (fun _ => 0, a, 0) := rfl
theorem den_l14Draw (hL : 5000 ≤ L) (k : Nat) {m : List Blk} {p : Nat} {c : C} {bs : List Int} (hc : CurOk m p c bs) (i h : Int) (hi : 0 ≤ i ∧ i ≤ bs.length) :
    ∃ r i' h', Good r ∧ den T X L (k + 8) 60 [.c (.ptr p 0 3)] (m.set p (curB c i h)) = some ⟨.agg (ringV r), m.set p (curB c i' h'), 0, m.length - p⟩ ∧ 0 ≤ i' ∧ i' ≤ bs.length := by
  rw [den_eq T_60]
  have hlt := hc.lt
  have hW : ¬ m.length - p = 0 := by omega
  have hlp := iter_exd (n0 := m.length) (id := 0) (ka := some [2, 3]) (f := fun s => exec (den T X L (k + 7)) L m.length none c_spec_l14Draw_b0 s) (tr := trim m.length (some [0, 2, 3, 4])) (σ := Nat × R3 × Int × Int)
    (fun s => ⟨[(0, .c (.ptr p 0 3)), (2, .c (.ptr m.length 0 10)), (3, .c (.ptr (m.length + 1) 0 10)), (4, vi s.1)], m.set p (curB c s.2.2.1 s.2.2.2) ++ [⟨ringV (fun _ => 0, 0, 0), 26, 0, true⟩, ⟨ringV s.2.1, 26, 0, true⟩], 0, m.length - p⟩)
    (fun s => Good s.2.1 ∧ s.1 ≤ 1000 ∧ 0 ≤ s.2.2.1 ∧ s.2.2.1 ≤ bs.length) (fun s => s.1)
    (fun z => ∃ r i' h', z = (.norm, ⟨[(2, .c (.ptr m.length 0 10)), (3, .c (.ptr (m.length + 1) 0 10))], m.set p (curB c i' h') ++ [⟨ringV (fun _ => 0, 0, 0), 26, 0, true⟩, ⟨ringV r, 26, 0, true⟩], 0, m.length - p⟩) ∧ Good r ∧ 0 ≤ i' ∧ i' ≤ bs.length) ?w
  case w =>
    rintro ⟨n, r, i, h⟩ ⟨h1, h2, h3, h4⟩
    simp only at h1 h2 h3 h4 ⊢
    by_cases hn : n = 0
    · subst hn
      refine ⟨.exit 0, _, by simp (maxSteps := 1000000) (implicitDefEqProofs := false) (disch := omega) [-getElem?_pos, c_spec_l14Draw_b0]; rfl, ?_⟩
      exact ⟨_, by simp (maxSteps := 1000000) (implicitDefEqProofs := false) (disch := omega) [-getElem?_pos, c_blkx, take_mx, hlt], r, i, h, rfl, h1, h3, h4⟩
    · have hn' : 0 < n := by omega
      have hw2 : m.length + 2 - p - 2 = m.length - p := by omega
      obtain ⟨t, i1, g1, o1, o2, o3⟩ := den_l1Once (X := X) (L := L) (k + 4) hc [⟨ringV (fun _ => 0, 0, 0), 26, 0, true⟩, ⟨ringV r, 26, 0, true⟩] i h 3 ⟨h3, h4⟩ (by omega)
      cases t with
      | true =>
        have q1 := fun m => den_spec_RingTake (X := X) (L := L) (by omega) (k + 3) m r.1 r.2.1 r.2.2
        refine ⟨.norm, _, by simp (maxSteps := 1000000) (implicitDefEqProofs := false) (disch := omega) [-getElem?_pos, c_spec_l14Draw_b0, hn', o1, q1, hlt, hw2]; rfl, (n - 1, (ringTake r.1 r.2.1 r.2.2).1, i1, g1), ?_, ⟨h1.take, by show n - 1 ≤ 1000; omega, o2, o3⟩, by show n - 1 < n; omega⟩
        simp (maxSteps := 1000000) (implicitDefEqProofs := false) (disch := omega) [-getElem?_pos, hlt, hw2]
        omega
      | false =>
        obtain ⟨x, i2, g2, o4, o5, o6, o7⟩ := den_l1Below (X := X) (L := L) (k + 5) hc [⟨ringV (fun _ => 0, 0, 0), 26, 0, true⟩, ⟨ringV r, 26, 0, true⟩] i1 g1 50 ⟨o2, o3⟩ (by omega)
        have q1 := fun m => den_spec_RingPut (X := X) (L := L) (by omega) (k + 3) m r.1 r.2.1 r.2.2 (x - 20)
        refine ⟨.norm, _, by simp (maxSteps := 1000000) (implicitDefEqProofs := false) (disch := omega) [-getElem?_pos, c_spec_l14Draw_b0, hn', o1, o4, q1, hlt, hw2]; rfl, (n - 1, (ringPut r.1 r.2.1 r.2.2 (x - 20)).1, i2, g2), ?_, ⟨h1.put _, by show n - 1 ≤ 1000; omega, o6, o7⟩, by show n - 1 < n; omega⟩
        simp (maxSteps := 1000000) (implicitDefEqProofs := false) (disch := omega) [-getElem?_pos, hlt, hw2]
        omega
  obtain ⟨x, i1, g1, o1, o2, o3, o4⟩ := den_l1Below (X := X) (L := L) (k + 5) hc [⟨ringV (fun _ => 0, 0, 0), 26, 0, true⟩] i h 8 hi (by omega)
  obtain ⟨y, i2, g2, r1, r2, r3, r4⟩ := den_l1Below (X := X) (L := L) (k + 5) hc [⟨ringV (fun _ => 0, 0, 0), 26, 0, true⟩, ⟨ringV (fun _ => 0, x, 0), 26, 0, true⟩] i1 g1 14 ⟨o3, o4⟩ (by omega)
  obtain ⟨n, rfl⟩ : ∃ n : Nat, y = n := ⟨y.toNat, by omega⟩
  have hz := zero_ring 0
  have hz2 := zero_ring x
  have hw1 : m.length + 1 - p - 1 = m.length - p := by omega
  have hw2 : m.length + 2 - p - 2 = m.length - p := by omega
  generalize hd : runF _ _ _ _ _ = d
  simp (maxSteps := 1000000) (implicitDefEqProofs := false) (disch := omega) [-getElem?_pos, c_spec_l14Draw, hz, hz2, o1, r1, hlt, hw1, hw2] at hd
  generalize hq : blkC _ _ _ (iter _ _ _ _) = q at hd
  obtain ⟨_, e1, r, i', h', rfl, s1, s2, s3⟩ : ∃ z, q = some z ∧ ∃ r i' h', z = (Ex.norm, ⟨[(2, .c (.ptr m.length 0 10)), (3, .c (.ptr (m.length + 1) 0 10))], m.set p (curB c i' h') ++ [⟨ringV (fun _ => 0, 0, 0), 26, 0, true⟩, ⟨ringV r, 26, 0, true⟩], 0, m.length - p⟩) ∧ Good r ∧ 0 ≤ i' ∧ i' ≤ bs.length := by
    rw [← hq]
    exact hlp L (n, (fun _ => 0, x, 0), i2, g2) _ ⟨⟨_, isRing.start (by omega)⟩, by show n ≤ 1000; omega, r3, r4⟩ (by simp (maxSteps := 1000000) (implicitDefEqProofs := false) (disch := omega) [-getElem?_pos, take_mx, hw1, hw2, hlt, hz, hz2]) (by show n < L; omega)
  subst e1
  simp (maxSteps := 1000000) (implicitDefEqProofs := false) (disch := omega) [-getElem?_pos, hlt, hw2, hW] at hd
  exact ⟨r, i', h', s1, hd.symm, s2, s3⟩
/-- What is drawn is a ring, and no memory is left of it. -/
theorem den_DrawRing (hL : 5000 ≤ L) (k : Nat) (m : List Blk) (c : C) (bs : List Int) (hs : SlB m c bs) (hb : bs.length ≤ 1048576) :
    ∃ r, Good r ∧ den T X L (k + 9) 11 [.c c] m = some ⟨.agg (ringV r), m, 0, 0⟩ := by
  rw [den_eq T_11]
  obtain ⟨h, e1⟩ := den_l1New (X := X) hL (k + 7) (m ++ [⟨ringV (fun _ => 0, 0, 0), 26, 0, true⟩]) c bs hs.grow hb
  have hc : CurOk (m ++ [⟨ringV (fun _ => 0, 0, 0), 26, 0, true⟩] ++ [curB c 0 h]) (m.length + 1) c bs := ⟨hs.grow.grow, by have := hs.refs; omega, by simp, hb⟩
  obtain ⟨r, i', h', g1, e2, _⟩ := den_l14Draw (X := X) hL k hc 0 h ⟨Int.le_refl _, by omega⟩
  refine ⟨r, g1, ?_⟩
  have hz := zero_ring 0
  simp only [List.append_assoc, List.cons_append, List.nil_append, set_app, List.set_cons_succ, List.set_cons_zero, List.length_append, List.length_cons, List.length_nil] at e1 e2
  have hr : c.refs ≤ m.length := hs.refs
  generalize c.refs = cr at e1 hr
  simp (maxSteps := 1000000) (implicitDefEqProofs := false) (disch := omega) [-getElem?_pos, c_spec_DrawRing, hz, e1, e2]
end Go.Proofs.Ytdnfcomgdgdifaa
