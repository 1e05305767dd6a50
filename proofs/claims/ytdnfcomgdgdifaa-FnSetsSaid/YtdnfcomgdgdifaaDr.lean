/-
  Draws: slices of bytes, the cursor, numbers below a bound.
-/
import Derived.Test.YtdnfcomgdgdifaaBA
set_option linter.unusedVariables false
set_option linter.unusedSimpArgs false
set_option maxHeartbeats 4000000
namespace Go.Proofs.Ytdnfcomgdgdifaa
variable {X : FuncId → List V → List Blk → Option Ret} {L : Nat}

/-- A slice of bytes that stands in the memory. -/
def SlB (m : List Blk) (c : C) (bs : List Int) : Prop :=
  ((c = .nils ∧ bs = []) ∨ ∃ b off tot blk, c = .sl b off bs.length tot ∧ live m b tot = some blk ∧ ∀ j, j < bs.length → blk.cs[off + j]? = some (.int .u8 (nth bs j))) ∧ ∀ j, j < bs.length → 0 ≤ nth bs j ∧ nth bs j ≤ 255
section
variable {m l : List Blk} {c : C} {bs : List Int}
theorem SlB.grow (h : SlB m c bs) : SlB (m ++ l) c bs := by
  refine ⟨?_, h.2⟩
  rcases h.1 with h | ⟨b, off, tot, blk, h1, h2, h3⟩
  · exact .inl h
  · exact .inr ⟨b, off, tot, blk, h1, live_grow h2, h3⟩
theorem SlB.lenV (h : SlB m c bs) : lenV m (.c c) = some (vi bs.length) := by
  rcases h.1 with ⟨rfl, rfl⟩ | ⟨b, off, tot, blk, rfl, h2, h3⟩
  · rfl
  · simp [Go.Proofs.Ytdnfcomgdgdifaa.lenV, h2]
theorem SlB.ixV (h : SlB m c bs) {i : Int} (hi : 0 ≤ i ∧ i < bs.length) : ixsV m 1 (.c c) (vi i) = some (.c (ptrOf c i.toNat)) := by
  rcases h.1 with ⟨rfl, rfl⟩ | ⟨b, off, tot, blk, rfl, h2, h3⟩
  · simp at hi; omega
  · simp [ixsV, h2, guard', hi, ptrOf]
theorem SlB.ldV (h : SlB m c bs) {i : Nat} (hi : i < bs.length) : ld1V m (.c (ptrOf c i)) = some (.c (.int .u8 (nth bs i))) := by
  rcases h.1 with ⟨rfl, rfl⟩ | ⟨b, off, tot, blk, rfl, h2, h3⟩
  · simp at hi
  · simp [ld1V, h2, ptrOf, h3 i hi]
theorem SlB.refs (h : SlB m c bs) : c.refs ≤ m.length := by
  rcases h.1 with ⟨rfl, _⟩ | ⟨b, off, tot, blk, rfl, h2, _⟩
  · exact Nat.zero_le _
  · exact live_lt h2
theorem SlB.congr {m' : List Blk} (h : SlB m c bs) (hm : ∀ q, q < c.refs → m'[q]? = m[q]?) : SlB m' c bs := by
  refine ⟨?_, h.2⟩
  rcases h.1 with h | ⟨b, off, tot, blk, rfl, h2, h3⟩
  · exact .inl h
  · refine .inr ⟨b, off, tot, blk, rfl, ?_, h3⟩
    unfold live at h2 ⊢
    rw [hm b (Nat.lt_succ_self b)]
    exact h2
end
/-- The cursor of a draw. -/
def curB (c : C) (i h : Int) : Blk := ⟨[c, ci i, ci h], 168, 0, true⟩
structure CurOk (m : List Blk) (p : Nat) (c : C) (bs : List Int) : Prop where
  sl : SlB m c bs
  refs : c.refs ≤ p
  lt : p < m.length
  len : bs.length ≤ 1048576
theorem CurOk.grow {m l : List Blk} {p : Nat} {c : C} {bs : List Int} (h : CurOk m p c bs) : CurOk (m ++ l) p c bs := ⟨h.sl.grow, h.refs, by have := h.lt; rw [List.length_append]; omega, h.len⟩
theorem CurOk.put {m : List Blk} {p : Nat} {c : C} {bs : List Int} (h : CurOk m p c bs) (x : Blk) : SlB (m.set p x) c bs := h.sl.congr fun q hq => List.getElem?_set_ne (by have := h.refs; omega)
theorem band (N : Nat) : 0 ≤ IntKind.i64.wrap ((N &&& (255 % 2 ^ IntKind.i64.bits) : Nat) : Int) ∧ IntKind.i64.wrap ((N &&& (255 % 2 ^ IntKind.i64.bits) : Nat) : Int) ≤ 255 := by
  have h1 : N &&& (255 % 2 ^ IntKind.i64.bits) ≤ 255 := Nat.le_trans Nat.and_le_right (Nat.mod_le _ _)
  rw [wrap_pos (by omega)]
  omega
theorem den_l1Byte0 (k : Nat) {m : List Blk} {p : Nat} {c : C} {bs : List Int} (hc : CurOk m p c bs) (i h : Int) (hi : 0 ≤ i ∧ i ≤ bs.length) :
    ∃ x i' h', den T X L (k + 1) 159 [.c (.ptr p 0 3)] (m.set p (curB c i h)) = some ⟨vi x, m.set p (curB c i' h'), 0, m.length - p⟩ ∧ (0 ≤ x ∧ x ≤ 255) ∧ 0 ≤ i' ∧ i' ≤ bs.length := by
  rw [den_eq T_159]
  have hlt := hc.lt
  have hlv' : ∀ x, live (m.set p x) p 3 = if 3 = x.cs.length then some x else none := fun x => live_set m p 3 x hlt
  have hW : ¬ m.length - p = 0 := by omega
  have hln := fun y => (hc.put y).lenV
  unfold curB
  by_cases hi : i < bs.length
  · obtain ⟨q, rfl⟩ : ∃ q : Nat, i = q := ⟨i.toNat, by omega⟩
    have hx := fun y => (hc.put y).ixV (i := (q : Int)) (by omega)
    rw [Int.toNat_natCast] at hx
    have hd := fun y => (hc.put y).ldV (i := q) (by omega)
    have hbd := hc.sl.2 q (by omega)
    have hbl := hc.len
    refine ⟨_, _, _, by simp (maxSteps := 1000000) (implicitDefEqProofs := false) (disch := omega) [-getElem?_pos, c_spec_l1Byte, hlv', hln, hi, hx, hd, List.set_set, List.length_set, hW]; exact ⟨rfl, rfl⟩, band _, ?_⟩
    omega
  · refine ⟨_, _, _, by simp (maxSteps := 1000000) (implicitDefEqProofs := false) (disch := omega) [-getElem?_pos, c_spec_l1Byte, hlv', hln, hi, List.set_set, List.length_set, hW]; exact ⟨rfl, rfl⟩, band _, ?_⟩
    omega
theorem den_l1Byte (k : Nat) {m : List Blk} {p : Nat} {c : C} {bs : List Int} (hc : CurOk m p c bs) (l : List Blk) (i h : Int) (hi : 0 ≤ i ∧ i ≤ bs.length) :
    ∃ x i' h', den T X L (k + 1) 159 [.c (.ptr p 0 3)] (m.set p (curB c i h) ++ l) = some ⟨vi x, m.set p (curB c i' h') ++ l, 0, m.length + l.length - p⟩ ∧ (0 ≤ x ∧ x ≤ 255) ∧ 0 ≤ i' ∧ i' ≤ bs.length := by
  obtain ⟨x, i', h', h1, h2⟩ := den_l1Byte0 (X := X) (L := L) k (hc.grow (l := l)) i h hi
  rw [List.set_append_left _ _ hc.lt, List.set_append_left _ _ hc.lt, List.length_append] at h1
  exact ⟨x, i', h', h1, h2⟩
theorem den_l1Below (k : Nat) {m : List Blk} {p : Nat} {c : C} {bs : List Int} (hc : CurOk m p c bs) (l : List Blk) (i h n : Int) (hi : 0 ≤ i ∧ i ≤ bs.length) (hn : 0 < n ∧ n ≤ 256) :
    ∃ x i' h', den T X L (k + 2) 114 [.c (.ptr p 0 3), vi n] (m.set p (curB c i h) ++ l) = some ⟨vi x, m.set p (curB c i' h') ++ l, 0, m.length + l.length - p⟩ ∧ (0 ≤ x ∧ x < n) ∧ 0 ≤ i' ∧ i' ≤ bs.length := by
  rw [den_eq T_114]
  have hlt := hc.lt
  obtain ⟨x, i', h', h1, h2, h3⟩ := den_l1Byte (X := X) (L := L) k hc l i h hi
  have h4 := Int.emod_nonneg x (show n ≠ 0 by omega)
  have h5 := Int.emod_lt_of_pos x (show 0 < n by omega)
  have e0 : ¬ n ≤ 0 := by omega
  have e1 : n ≤ 256 := hn.2
  have e2 : ¬ n = 0 := by omega
  have hW : ¬ m.length + l.length - p = 0 := by omega
  refine ⟨x % n, i', h', ?_, ⟨h4, h5⟩, h3⟩
  simp (maxSteps := 1000000) (implicitDefEqProofs := false) (disch := omega) [-getElem?_pos, c_spec_l1Below, e0, e1, e2, h1, hW, List.length_set, List.length_append]
theorem den_l1Once (k : Nat) {m : List Blk} {p : Nat} {c : C} {bs : List Int} (hc : CurOk m p c bs) (l : List Blk) (i h n : Int) (hi : 0 ≤ i ∧ i ≤ bs.length) (hn : 0 < n ∧ n ≤ 256) :
    ∃ x i' h', den T X L (k + 3) 115 [.c (.ptr p 0 3), vi n] (m.set p (curB c i h) ++ l) = some ⟨vb x, m.set p (curB c i' h') ++ l, 0, m.length + l.length - p⟩ ∧ 0 ≤ i' ∧ i' ≤ bs.length := by
  rw [den_eq T_115]
  have hlt := hc.lt
  obtain ⟨x, i', h', h1, h2, h3⟩ := den_l1Below (X := X) (L := L) k hc l i h n hi hn
  have hW : ¬ m.length + l.length - p = 0 := by omega
  refine ⟨decide (x = 0), i', h', ?_, h3⟩
  simp (maxSteps := 1000000) (implicitDefEqProofs := false) (disch := omega) [-getElem?_pos, c_spec_l1Once, h1, hW, List.length_set, List.length_append]
theorem bandM (N : Nat) : 0 ≤ IntKind.i64.wrap ((N &&& (1073741823 % 2 ^ IntKind.i64.bits) : Nat) : Int) ∧ IntKind.i64.wrap ((N &&& (1073741823 % 2 ^ IntKind.i64.bits) : Nat) : Int) ≤ 2000000000 := by
  have h1 : N &&& (1073741823 % 2 ^ IntKind.i64.bits) ≤ 1073741823 := Nat.le_trans Nat.and_le_right (Nat.mod_le _ _)
  rw [wrap_pos (by omega)]
  omega
/-- A loop with what stands around it: out with something that has a property. -/
theorem iter_exd {n0 : Nat} {σ : Type} {f : St → Option (Ex × St)} {tr : St → St} {id : Nat} {ka : Option (List Nat)} (H : σ → St) (I : σ → Prop) (μ : σ → Nat) (Q : Ex × St → Prop)
    (hs : ∀ s, I s → ∃ e st, f (H s) = some (e, st) ∧ match e with
      | .norm => ∃ s', tr st = H s' ∧ I s' ∧ μ s' < μ s
      | e => ∃ r, blkC n0 id ka (some (e, st)) = some r ∧ Q r) :
    ∀ n s st, I s → tr st = H s → μ s < n → ∃ r, blkC n0 id ka (iter f tr n st) = some r ∧ Q r := by
  intro n
  induction n with
  | zero => intro s st _ _ h; omega
  | succ n ih =>
    intro s st hI ht hn
    obtain ⟨e, st', he, h⟩ := hs s hI
    unfold iter
    rw [ht, he]
    cases e with
    | norm =>
      obtain ⟨s', h1, h2, h3⟩ := h
      exact ih s' st' h2 h1 (by omega)
    | exit id => exact h
    | ret => exact h
theorem den_l1New (hL : 5000 ≤ L) (k : Nat) (m : List Blk) (c : C) (bs : List Int) (hs : SlB m c bs) (hb : bs.length ≤ 1048576) :
    ∃ h, den T X L (k + 1) 61 [.c c] m = some ⟨.c (.ptr m.length 0 3), m ++ [curB c 0 h], c.refs, 0⟩ := by
  rw [den_eq T_61]
  have hr := hs.refs
  have hln := hs.lenV
  have hlp := iter_exd (n0 := m.length) (id := 0) (ka := some [0, 3]) (f := fun s => exec (den T X L k) L m.length none c_spec_l1New_b0 s) (tr := trim m.length (some [0, 3, 4])) (σ := Nat × Int)
    (fun s => ⟨[(0, .c c), (3, vi s.2), (4, vi s.1)], m, 0, 0⟩) (fun s => s.1 ≤ bs.length ∧ s.1 ≤ 4000 ∧ 0 ≤ s.2 ∧ s.2 ≤ 2000000000) (fun s => 4000 - s.1)
    (fun r => ∃ h, r = (.norm, ⟨[(0, .c c), (3, vi h)], m, 0, 0⟩)) ?w
  case w =>
    rintro ⟨i, h⟩ ⟨h1, h2, h3, h4⟩
    simp only at h1 h2 h3 h4 ⊢
    by_cases hi : i < bs.length ∧ i < 4000
    · have hi1 : (i : Int) < (bs.length : Int) := by omega
      have hi2 : (i : Int) < 4000 := by omega
      have hx := hs.ixV (i := (i : Int)) (by omega)
      rw [Int.toNat_natCast] at hx
      have hd := hs.ldV (i := i) (by omega)
      have hbd := hs.2 i (by omega)
      obtain ⟨g, hg, hg1⟩ : ∃ g, IntKind.i64.wrap (((((h * 131 + nth bs i + 7) % 2 ^ IntKind.i64.bits).toNat &&& (1073741823 % 2 ^ IntKind.i64.bits)) : Nat) : Int) = g ∧ 0 ≤ g ∧ g ≤ 2000000000 := ⟨_, rfl, bandM _⟩
      refine ⟨.norm, _, by simp (maxSteps := 1000000) (implicitDefEqProofs := false) (disch := omega) [-getElem?_pos, c_spec_l1New_b0, hln, hi1, hi2, hx, hd, hg]; rfl, (i + 1, g), ?_, ⟨?_, ?_, hg1⟩, ?_⟩
      · simp (maxSteps := 1000000) (implicitDefEqProofs := false) (disch := omega) [-getElem?_pos, take_mx]
      · show i + 1 ≤ bs.length; omega
      · show i + 1 ≤ 4000; omega
      · show 4000 - (i + 1) < 4000 - i; omega
    · by_cases hi1 : i < bs.length
      · have hi2 : ¬ (i : Int) < 4000 := by omega
        have hi3 : (i : Int) < (bs.length : Int) := by omega
        refine ⟨.exit 0, _, by simp (maxSteps := 1000000) (implicitDefEqProofs := false) (disch := omega) [-getElem?_pos, c_spec_l1New_b0, hln, hi3, hi2]; rfl, ?_⟩
        exact ⟨_, by simp (maxSteps := 1000000) (implicitDefEqProofs := false) (disch := omega) [-getElem?_pos, c_blkx, take_mx], h, rfl⟩
      · have hi3 : ¬ (i : Int) < (bs.length : Int) := by omega
        refine ⟨.exit 0, _, by simp (maxSteps := 1000000) (implicitDefEqProofs := false) (disch := omega) [-getElem?_pos, c_spec_l1New_b0, hln, hi3]; rfl, ?_⟩
        exact ⟨_, by simp (maxSteps := 1000000) (implicitDefEqProofs := false) (disch := omega) [-getElem?_pos, c_blkx, take_mx], h, rfl⟩
  simp (maxSteps := 1000000) (implicitDefEqProofs := false) (disch := omega) [-getElem?_pos, c_spec_l1New, hln]
  generalize hq : blkC _ _ _ (iter _ _ _ _) = q
  obtain ⟨r, e1, h, rfl⟩ : ∃ r, q = some r ∧ ∃ h, r = (Ex.norm, ⟨[(0, .c c), (3, vi h)], m, 0, 0⟩) := by
    rw [← hq]
    exact hlp L (0, 87087 + (bs.length : Int)) _ ⟨Nat.zero_le _, by show 0 ≤ 4000; omega, by show (0 : Int) ≤ 87087 + bs.length; omega, by show (87087 : Int) + bs.length ≤ 2000000000; omega⟩ (by simp (maxSteps := 1000000) (implicitDefEqProofs := false) (disch := omega) [-getElem?_pos, take_mx]) (by show 4000 - 0 < L; omega)
  subst e1
  refine ⟨h, ?_⟩
  clear hq hlp
  rcases hs.1 with ⟨rfl, _⟩ | ⟨b, off, tot, blk, rfl, _, _⟩
  · simp (maxSteps := 1000000) (implicitDefEqProofs := false) (disch := omega) [-getElem?_pos, curB]
  · simp only [C.refs] at hr
    simp (maxSteps := 1000000) (implicitDefEqProofs := false) (disch := omega) [-getElem?_pos, curB]
end Go.Proofs.Ytdnfcomgdgdifaa
