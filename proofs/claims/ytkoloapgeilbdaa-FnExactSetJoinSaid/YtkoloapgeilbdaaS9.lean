/-
  Sets: what a law's run keeps of its memory; the laws of SetList and SetSame.
-/
import Derived.Test.YtkoloapgeilbdaaS8
set_option linter.unusedVariables false
set_option linter.unusedSimpArgs false
set_option maxHeartbeats 4000000
namespace Go.Proofs.Ytkoloapgeilbdaa
variable {X : FuncId → List V → List Blk → Option Ret} {L : Nat}

/-- Memory that begins with another. -/
def Ext (m M : List Blk) : Prop := ∃ l, M = m ++ l
section
variable {m M M' : List Blk}
theorem Ext.refl (m : List Blk) : Ext m m := ⟨[], by simp⟩
theorem Ext.trans (h : Ext m M) (k : Ext M M') : Ext m M' := by
  obtain ⟨l, rfl⟩ := h
  obtain ⟨l', rfl⟩ := k
  exact ⟨l ++ l', by simp⟩
theorem Ext.len (h : Ext m M) : m.length ≤ M.length := by obtain ⟨l, rfl⟩ := h; simp
theorem Ext.get (h : Ext m M) {q : Nat} (hq : q < m.length) : M[q]? = m[q]? := by obtain ⟨l, rfl⟩ := h; exact List.getElem?_append_left hq
theorem Ext.of (h : m.length ≤ M.length) (hg : ∀ q, q < m.length → M[q]? = m[q]?) : Ext m M := by
  refine ⟨M.drop m.length, ?_⟩
  have : M.take m.length = m := by
    apply List.ext_getElem?
    intro q
    by_cases hq : q < m.length
    · rw [List.getElem?_take_of_lt hq, hg q hq]
    · rw [List.getElem?_take_eq_none (by omega), List.getElem?_eq_none (by omega)]
  conv => lhs; rw [← List.take_append_drop m.length M, this]
theorem Ext.fin (h : Ext m M) (a : Nat) : List.take m.length (List.take (mx m.length a) M) = m := by
  obtain ⟨l, rfl⟩ := h
  exact take_end
theorem Ext.fin0 (h : Ext m M) : List.take m.length M = m := by
  obtain ⟨l, rfl⟩ := h
  exact List.take_left
theorem Ext.ss {v : C} {xss : List (List Int)} (h : Ext m M) (hs : SS m v xss) : SS M v xss := by
  obtain ⟨l, rfl⟩ := h
  exact hs.grow
theorem Ext.so {lo hi : Nat} {v : C} {xss : List (List Int)} (h : Ext m M) (hh : hi ≤ m.length) (hs : SO m lo hi v xss) : SO M lo hi v xss := by
  obtain ⟨l, rfl⟩ := h
  exact hs.grow hh
theorem Ext.ob {lo hi b bj : Nat} {c : C} {xs : List Int} (h : Ext m M) (hh : hi ≤ m.length) (hs : OB m lo hi b bj c xs) : OB M lo hi b bj c xs := hs.congr fun q _ h2 => h.get (by omega)
end
theorem toSO (hL : 2000000 ≤ L) (k : Nat) (m : List Blk) (v : C) (xss : List (List Int)) (hv : SS m v xss) (hb : xss.length ≤ 1048576) (hbs : ∀ xs ∈ xss, xs.length ≤ 1048576) :
    ∃ M e, den T X L (k + 2) 17 [.c v] m = some ⟨.c (.sl m.length 0 xss.length xss.length), M, e, 0⟩ ∧ Ext m M ∧ SO M m.length M.length (.sl m.length 0 xss.length xss.length) xss :=
  ⟨_, _, den_toIntSS hL k m v xss hv hb hbs, ⟨_, rfl⟩, fresh_SO m xss⟩
theorem outL_ob (m : List Blk) (l : List Int) : ∃ c M bj, outL m l = ⟨.c c, M, 0, 0⟩ ∧ Ext m M ∧ OB M m.length M.length M.length bj c l := by
  unfold outL
  by_cases h : l = []
  · rw [if_pos h]
    exact ⟨_, _, 0, rfl, Ext.refl m, .inl ⟨rfl, h⟩⟩
  · rw [if_neg h]
    refine ⟨_, _, m.length, rfl, ⟨_, rfl⟩, .inr ⟨ints l, by rw [ints_len], Nat.le_refl _, by simp, by simp, by simp [blkI], by rw [ints_len]; exact Nat.le_refl _, fun i hi => ints_get' hi⟩⟩
theorem ob_blk (m : List Blk) (l : List Int) : OB (m ++ [blkI l]) m.length (m ++ [blkI l]).length (m ++ [blkI l]).length m.length (.sl m.length 0 l.length l.length) l :=
  .inr ⟨ints l, by rw [ints_len], Nat.le_refl _, by simp, by simp, by simp [blkI], by rw [ints_len]; exact Nat.le_refl _, fun i hi => ints_get' hi⟩
def setL (xss : List (List Int)) : List Int := if setOk xss = true then srt xss.flatten else []
theorem setL_len (xss : List (List Int)) : (setL xss).length ≤ 24 := by
  unfold setL
  split
  · rename_i h
    rw [srt_len, tot_flatten]
    exact (setOk_tot h).1
  · exact Nat.zero_le _
theorem impl_SetList_ob (hL : 2000000 ≤ L) (k : Nat) (m : List Blk) (v : C) (xss : List (List Int)) (hv : SSA m v xss) (hb : xss.length ≤ 1048576) (hbs : ∀ xs ∈ xss, xs.length ≤ 1048576) (ht : tot xss ≤ 1073741824) :
    ∃ c M bj, den T libX L (k + 4) 55 [.c v] m = some ⟨.c c, M, 0, 0⟩ ∧ Ext m M ∧ OB M m.length M.length M.length bj c (setL xss) := by
  rw [den_impl_SetList hL k m v xss hv hb hbs ht]
  unfold setL
  split
  · obtain ⟨c, M, bj, h1, h2, h3⟩ := outL_ob m (srt xss.flatten)
    exact ⟨c, M, bj, by rw [h1], h2, h3⟩
  · exact ⟨_, _, 0, rfl, Ext.refl m, .inl ⟨rfl, rfl⟩⟩
theorem spec_SetList_ob (hL : 2000000 ≤ L) (k : Nat) (m : List Blk) (v : C) (xss : List (List Int)) (hv : SSA m v xss) (hb : xss.length ≤ 1048576) (hbs : ∀ xs ∈ xss, xs.length ≤ 1048576) :
    ∃ c M bj, den T X L (k + 4) 54 [.c v] m = some ⟨.c c, M, 0, 0⟩ ∧ Ext m M ∧ OB M m.length M.length M.length bj c (setL xss) :=
  ⟨_, _, _, den_spec_SetList hL k m v xss hv hb hbs, ⟨_, rfl⟩, ob_blk m (setL xss)⟩
theorem sz_tot {xss : List (List Int)} {left : Int} (h0 : 0 ≤ left) (h : 0 ≤ szSS xss left) : (xss.length : Int) + tot xss ≤ left := by
  have key : ∀ {xss : List (List Int)} {left : Int}, 0 ≤ left → 0 ≤ szL xss left → (tot xss : Int) ≤ left := by
    intro xss
    induction xss with
    | nil => intro left h0 _; simpa [tot] using h0
    | cons xs r ih =>
      intro left h0 h
      unfold szL at h
      split at h
      · omega
      · have := ih (left := left - xs.length) (by omega) h
        simp only [tot]; omega
  unfold szSS at h
  split at h
  · omega
  · have := key (xss := xss) (left := left - xss.length) (by omega) h
    omega
theorem den_FnExactSetList (hL : 4000000 ≤ L) (k : Nat) (m : List Blk) (v : C) (xss : List (List Int)) (hv : SS m v xss) (hb : xss.length ≤ 9223372036854775807) (hbs : ∀ xs ∈ xss, xs.length ≤ 9223372036854775807) :
    den T libX L (k + 5) 12 [.c v] m = some ⟨vb true, m, 0, 0⟩ := by
  rw [den_eq T_12]
  have hsz := den_szIntSS (X := libX) (L := L) (by omega) (k + 2) m v xss 1048576 hv hb hbs (by omega)
  by_cases h0 : szSS xss 1048576 < 0
  · simp (maxSteps := 1000000) (implicitDefEqProofs := false) (disch := omega) [-getElem?_pos, c_laws_FnExactSetList, hsz, h0]
  · obtain ⟨b1, b2, _⟩ := sz_ok (xss := xss) (left := 1048576) (by omega) (by omega) (by omega)
    have bt := sz_tot (xss := xss) (left := 1048576) (by omega) (by omega)
    have hlen := setL_len xss
    obtain ⟨M1, e1, d1, x1, s1⟩ := toSO (X := libX) (L := L) (by omega) (k + 2) m v xss hv b1 b2
    obtain ⟨w, M2, bw, d2, x2, ow⟩ := spec_SetList_ob (X := libX) (L := L) (by omega) k M1 _ xss s1.ssa b1 b2
    obtain ⟨M3, e3, d3, x3, s3⟩ := toSO (X := libX) (L := L) (by omega) (k + 2) M2 v xss ((x1.trans x2).ss hv) b1 b2
    obtain ⟨g, M4, bg, d4, x4, og⟩ := impl_SetList_ob (L := L) (by omega) k M3 _ xss s3.ssa b1 b2 (by omega)
    have ow4 := (x3.trans x4).ob (Nat.le_refl _) ow
    have q1 := den_eqIntS (X := libX) (L := L) (k + 3) M4 g w _ _ og.sl ow4.sl (by omega) (by omega)
    have x14 : Ext m M4 := x1.trans (x2.trans (x3.trans x4))
    obtain ⟨M5, e5, d5, x5, s5⟩ := toSO (X := libX) (L := L) (by omega) (k + 2) M4 v xss (x14.ss hv) b1 b2
    have s35 := (x4.trans x5).so (Nat.le_refl _) s3
    have q2 := den_eqIntSS (X := libX) (L := L) (by omega) (k + 2) M5 _ _ xss xss s35.ss s5.ss b1 b2
    have l3 := x4.len
    have l5 := x5.len
    have l2 := x3.len
    have l1 := x2.len
    have l0 := x1.len
    obtain ⟨M6, W6, d6, w6, n6, a6, _⟩ := s35.mark (X := libX) (L := L) (by omega) (k + 2) (by omega) b1 b2 (c0 := 1) (by omega) (by omega)
    have ow6 : OB M6 M1.length M2.length M2.length bw w (setL xss) := (x5.ob (by omega) ow4).congr fun q _ h2 => a6 q (.inl (by omega))
    have og6 : OB M6 M3.length M4.length M4.length bg g (setL xss) := (x5.ob (Nat.le_refl _) og).congr fun q h1 h2 => a6 q (.inr (by omega))
    have q3 := den_eqIntS (X := libX) (L := L) (k + 3) M6 g w _ _ og6.sl ow6.sl (by omega) (by omega)
    obtain ⟨M7, W7, d7, w7, n7, _, a7, og7⟩ := og6.mark (X := libX) (L := L) (by omega) (k + 3) (by omega) (by omega) (c0 := 1) (by omega)
    have q4 := den_heldS (X := libX) (L := L) (k + 3) M7 g _ 1 og7.sl (by omega) (by omega) (by omega)
    have x7 : Ext m M7 := Ext.of (by omega) fun q hq => by
      rw [a7 q (.inl (by omega)), a6 q (.inl (by omega))]
      exact (x14.trans x5).get hq
    have ow7 : OB M7 M1.length M2.length M2.length bw w (setL xss) := ow6.congr fun q h1 h2 => a7 q (.inl (by omega))
    obtain ⟨M8, e8, d8, x8, s8⟩ := toSO (X := libX) (L := L) (by omega) (k + 2) M7 v xss (x7.ss hv) b1 b2
    obtain ⟨h, M9, bh, d9, x9, oh⟩ := impl_SetList_ob (L := L) (by omega) k M8 _ xss s8.ssa b1 b2 (by omega)
    have q5 := den_eqIntS (X := libX) (L := L) (k + 3) M9 h w _ _ oh.sl ((x8.trans x9).ob (by omega) ow7).sl (by omega) (by omega)
    have q6 := den_heldS (X := libX) (L := L) (k + 3) M9 g _ 1 ((x8.trans x9).ob (by omega) og7).sl (by omega) (by omega) (by omega)
    have f1 := (x7.trans (x8.trans x9)).fin
    have z6 : W6 - (M5.length - m.length) = 0 := by omega
    have z7 : W7 - (M6.length - m.length) = 0 := by omega
    have t1 : ¬ (1 : Int) + (tot xss : Int) < 0 := by omega
    have t2 : ¬ (1 : Int) + ((setL xss).length : Int) < 0 := by omega
    simp only [decide_true] at q1 q2 q3 q5
    simp (maxSteps := 1000000) (implicitDefEqProofs := false) (disch := omega) [-getElem?_pos, c_laws_FnExactSetList, hsz, h0, d1, d2, d3, d4, d5, d6, d7, d8, d9, q1, q2, q3, q4, q5, q6, z6, z7, t1, t2, f1]
end Go.Proofs.Ytkoloapgeilbdaa
