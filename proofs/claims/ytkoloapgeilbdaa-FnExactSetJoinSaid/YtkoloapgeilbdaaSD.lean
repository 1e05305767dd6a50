/-
  Sets of one's own, each bucket in a block that it fills: how they are kept up while they are written.
-/
import Derived.Test.YtkoloapgeilbdaaSC
set_option linter.unusedVariables false
set_option linter.unusedSimpArgs false
set_option maxHeartbeats 4000000
namespace Go.Proofs.Ytkoloapgeilbdaa
variable {X : FuncId → List V → List Blk → Option Ret} {L : Nat}

structure SX (m : List Blk) (lo hi q : Nat) (hs : List C) (xss : List (List Int)) : Prop where
  q1 : lo ≤ q
  q2 : q < hi
  hm : hi ≤ m.length
  hdr : m[q]? = some ⟨hs, 30, 1, true⟩
  len : hs.length = xss.length
  bk : ∀ j, j < xss.length → (hs[j]? = some .nils ∧ nthL xss j = []) ∨ ∃ b, hs[j]? = some (C.sl b 0 (nthL xss j).length (nthL xss j).length) ∧ m[b]? = some (blkI (nthL xss j)) ∧ lo ≤ b ∧ b < hi ∧ b ≠ q
  dst : ∀ (i j b x y z x' y' z' : Nat), hs[i]? = some (C.sl b x y z) → hs[j]? = some (C.sl b x' y' z') → i = j
def biOf (hs : List C) (hi j : Nat) : Nat := match hs[j]? with | some (C.sl b _ _ _) => b | _ => hi + j
section
variable {m m' l : List Blk} {lo hi hi' q p b a : Nat} {hs : List C} {xss : List (List Int)} {xs : List Int}
theorem SX.bi (h : SX m lo hi q hs xss) {j : Nat} (hj : j < xss.length) : (hs[j]? = some .nils ∧ biOf hs hi j = hi + j) ∨ ∃ b y, hs[j]? = some (C.sl b 0 y y) ∧ biOf hs hi j = b ∧ b < hi := by
  rcases h.bk j hj with ⟨h1, h2⟩ | ⟨b, h1, h2, h3, h4, h5⟩
  · exact .inl ⟨h1, by simp [biOf, h1]⟩
  · exact .inr ⟨b, _, h1, by simp [biOf, h1], h4⟩
theorem SX.so (h : SX m lo hi q hs xss) : SO m lo hi (.sl q 0 xss.length xss.length) xss := by
  refine ⟨q, hs, biOf hs hi, h.q1, h.q2, rfl, h.hdr, h.len, fun i j hi' hj' hij => ?_, fun j hj => ?_⟩
  · rcases h.bi hi' with ⟨a1, a2⟩ | ⟨b, y, a1, a2, a3⟩ <;> rcases h.bi hj' with ⟨c1, c2⟩ | ⟨d, z, c1, c2, c3⟩
    · rw [a2, c2] at hij; omega
    · rw [a2, c2] at hij; omega
    · rw [a2, c2] at hij; omega
    · rw [a2, c2] at hij
      subst hij
      exact h.dst _ _ _ _ _ _ _ _ _ a1 c1
  · rcases h.bk j hj with ⟨h1, h2⟩ | ⟨b, h1, h2, h3, h4, h5⟩
    · exact ⟨_, h1, .inl ⟨rfl, h2⟩⟩
    · have hb : biOf hs hi j = b := by simp [biOf, h1]
      rw [hb]
      exact ⟨_, h1, .inr ⟨ints (nthL xss j), by rw [ints_len], h3, h4, h5, h2, by rw [ints_len]; exact Nat.le_refl _, fun i hi => ints_get' hi⟩⟩
theorem SX.congr (h : SX m lo hi q hs xss) (hl : hi ≤ m'.length) (hg : ∀ j, lo ≤ j → j < hi → m'[j]? = m[j]?) : SX m' lo hi q hs xss :=
  ⟨h.q1, h.q2, hl, (hg q h.q1 h.q2).trans h.hdr, h.len, fun j hj => (h.bk j hj).imp id fun ⟨b, h1, h2, h3, h4, h5⟩ => ⟨b, h1, (hg b h3 h4).trans h2, h3, h4, h5⟩, h.dst⟩
theorem SX.ext (h : SX m lo hi q hs xss) (he : Ext m m') : SX m' lo hi q hs xss := h.congr (Nat.le_trans h.hm he.len) fun j _ h2 => he.get (Nat.lt_of_lt_of_le h2 h.hm)
theorem SX.cut (h : SX m lo hi q hs xss) (ha : hi ≤ a) : SX (m.take a) lo hi q hs xss := h.congr (by have := h.hm; rw [List.length_take]; omega) fun j _ h2 => List.getElem?_take_of_lt (by omega)
theorem SX.live (h : SX m lo hi q hs xss) : live m q xss.length = some ⟨hs, 30, 1, true⟩ := by
  unfold Go.Proofs.Ytkoloapgeilbdaa.live; rw [h.hdr]; simp [h.len]
theorem fresh_SX (m : List Blk) (xss : List (List Int)) : SX (freshM m xss) m.length (m.length + 1 + xss.length) m.length (hd (m.length + 1) xss) xss := by
  have hl := fresh_laid m xss
  have hml := freshM_len m xss
  refine ⟨Nat.le_refl _, by omega, by omega, hl.hdr, hd_len _ _, fun j hj => .inr ⟨m.length + 1 + j, hd_get hj, hl.bks j hj, by omega, by omega, by omega⟩, fun i j b x y z x' y' z' h1 h2 => ?_⟩
  have hh := hd_len (m.length + 1) xss
  have hi := (List.getElem?_eq_some_iff.1 h1).1
  have hj := (List.getElem?_eq_some_iff.1 h2).1
  rw [hh] at hi hj
  rw [hd_get hi] at h1
  rw [hd_get hj] at h2
  injection h1 with h1
  injection h1 with h1
  injection h2 with h2
  injection h2 with h2
  omega
/-- One bucket put anew. -/
theorem SX.put (h : SX m lo hi q hs xss) (hp : p < xss.length) (hh : hi ≤ hi') (hm' : hi' ≤ m'.length) (h1 : m'[q]? = some ⟨lay hs p [.sl b 0 xs.length xs.length], 30, 1, true⟩) (h2 : m'[b]? = some (blkI xs)) (b1 : lo ≤ b) (b2 : b < hi') (b3 : b ≠ q)
    (hf : ∀ (j x y z : Nat), j ≠ p → hs[j]? ≠ some (C.sl b x y z)) (h3 : ∀ j, lo ≤ j → j < hi → j ≠ q → j ≠ b → m'[j]? = m[j]?) : SX m' lo hi' q (lay hs p [.sl b 0 xs.length xs.length]) (setN xss p xs) := by
  have hpl : p < hs.length := by rw [h.len]; exact hp
  refine ⟨h.q1, by have := h.q2; omega, hm', h1, by rw [lay_lenP hpl, setN_len, h.len], fun j hj => ?_, fun i j b' x y z x' y' z' e1 e2 => ?_⟩
  · rw [setN_len] at hj
    rw [lay_one hpl, setN_nth hp]
    by_cases e : j = p
    · rw [if_pos e, if_pos e]
      exact .inr ⟨b, rfl, h2, b1, b2, b3⟩
    · rw [if_neg e, if_neg e]
      refine (h.bk j hj).imp id fun ⟨d, k1, k2, k3, k4, k5⟩ => ⟨d, k1, ?_, k3, by omega, k5⟩
      rw [h3 d k3 k4 k5 fun e' => hf j _ _ _ e (e' ▸ k1), k2]
  · rw [lay_one hpl] at e1 e2
    by_cases c1 : i = p
    · by_cases c2 : j = p
      · omega
      · rw [if_pos c1] at e1
        rw [if_neg c2] at e2
        injection e1 with e1
        injection e1 with e1
        subst e1
        exact absurd e2 (hf j _ _ _ c2)
    · rw [if_neg c1] at e1
      by_cases c2 : j = p
      · rw [if_pos c2] at e2
        injection e2 with e2
        injection e2 with e2
        subst e2
        exact absurd e1 (hf i _ _ _ c1)
      · rw [if_neg c2] at e2
        exact h.dst _ _ _ _ _ _ _ _ _ e1 e2
/-- A bucket put into a new block. -/
theorem SX.putNew (h : SX m lo hi q hs xss) (hp : p < xss.length) (hb : m.length ≤ b) (hl : (m ++ l)[b]? = some (blkI xs)) : SX ((m ++ l).set q ⟨lay hs p [.sl b 0 xs.length xs.length], 30, 1, true⟩) lo (b + 1) q (lay hs p [.sl b 0 xs.length xs.length]) (setN xss p xs) := by
  have hq := h.q2
  have hm := h.hm
  have hbl := lt_of_get hl
  refine h.put hp (by omega) (by simp at hbl ⊢; omega) ?_ ?_ (by have := h.q1; omega) (by omega) (by omega) (fun j x y z hj e => ?_) fun j h1 h2 h3 h4 => ?_
  · rw [List.getElem?_set_self (by simp; omega)]
  · rw [List.getElem?_set_ne (by omega), hl]
  · have hjl : j < xss.length := by rw [← h.len]; exact (List.getElem?_eq_some_iff.1 e).1
    rcases h.bk j hjl with ⟨k1, _⟩ | ⟨d, k1, k2, k3, k4, k5⟩
    · rw [k1] at e; cases e
    · rw [k1] at e
      injection e with e
      injection e with e
      omega
  · rw [List.getElem?_set_ne (by omega), List.getElem?_append_left (by omega)]
theorem setN_setN (xss : List (List Int)) (p : Nat) (xs ys : List Int) : setN (setN xss p xs) p ys = setN xss p ys := by simp [setN]
end
end Go.Proofs.Ytkoloapgeilbdaa
