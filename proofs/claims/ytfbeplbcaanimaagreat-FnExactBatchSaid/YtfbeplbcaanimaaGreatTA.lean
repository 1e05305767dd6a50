/-
 Trees: the program's test, run.
-/
import Derived.Test.YtfbeplbcaanimaaGreatBA
import Derived.Test.YtfbeplbcaanimaaGreatCA
import Derived.Test.YtfbeplbcaanimaaGreatCB
set_option linter.unusedVariables false
set_option linter.unusedSimpArgs false
set_option maxHeartbeats 4000000
namespace Go.Proofs.YtfbeplbcaanimaaGreat
variable {X : FuncId → List V → List Blk → Option Ret} {L : Nat}
abbrev blkB (met : Nat → Bool) : Blk := ⟨bar 16 met, 145, 0, true⟩
theorem wrap_m1 {x : Int} (h : -2000000000 ≤ x ∧ x ≤ 2000000000) : IntKind.i64.wrap (x - 1) = x - 1 := wrap_pos (by omega)
def openC (f : Nat → Nd) (met : Nat → Bool) : Nat := cn (fun i => (f i).u && !(met i)) 16
theorem openC_met {f : Nat → Nd} {met : Nat → Bool} {q : Nat} (hq : q < 16) (hu : (f q).u = true) (hm : met q = false) : openC f (upd met q true) < openC f met := by
 have := cn_add (q := fun i => (f i).u && !(upd met q true i)) (q' := fun i => (f i).u && !(met i)) 16 (fun i _ h => by
  by_cases e : i = q
  ·subst e; rw [upd_at] at h; simp at h
  ·rwa [upd_ne _ _ e] at h) q hq (by rw [upd_at]; simp) (by simp [hu, hm])
 exact this
theorem openC_more {f : Nat → Nd} {met met' : Nat → Bool} (h : ∀ i, met i = true → met' i = true) : openC f met' ≤ openC f met := cn_mono 16 fun i _ hi => by
 simp only [Bool.and_eq_true, Bool.not_eq_true'] at hi ⊢
 refine ⟨hi.1, ?_⟩
 cases hm : met i with
 | false => rfl
 | true => rw [h i hm] at hi; simp at hi
theorem Pt_more : ∀ (n : Nat) (f : Nat → Nd) (p lo hi : Int) (met : Nat → Bool) (i : Nat), met i = true → (Pt n f p lo hi met).2 i = true
 | 0, _, _, _, _, _, _, h => h
 | n + 1, f, p, lo, hi, met, i, h => by
  by_cases hp : p = -1
  ·subst hp; exact h
  ·cases hc : (inB p 0 15 && !(met p.toNat) && (f p.toNat).u && inB (f p.toNat).a lo hi) with
   | false => rw [Pt_bad hp hc]; exact h
   | true =>
    simp only [Bool.and_eq_true, inB_iff, Bool.not_eq_true'] at hc
    obtain ⟨q, rfl⟩ : ∃ q : Nat, p = q := ⟨p.toNat, by omega⟩
    rw [Int.toNat_natCast] at hc
    have h0 : upd met q true i = true := by
     by_cases e : i = q
     ·subst e; rw [upd_at]
     ·rw [upd_ne _ _ e]; exact h
    have h1 := Pt_more n f (f q).b lo ((f q).a - 1) (upd met q true) i h0
    rw [Pt_go (by omega) hc.1.1.2 hc.1.2 (inB_pos hc.2)]
    split
    ·exact Pt_more n f _ _ _ _ i h1
    ·exact h1
theorem den_isPart (hL : 100 ≤ L) : ∀ (n k : Nat) (m : List Blk) (b : Nat) (f : Nat → Nd) (a p lo hi : Int) (met : Nat → Bool), n ≤ k → b < m.length → openC f met < n → -1000000001 ≤ lo → hi ≤ 1000000001 → lo ≤ 1000000002 → -1000000002 ≤ hi →
  ∃ W, W ≤ m.length - b ∧ den T X L (k + 2) 112 [.agg (chn f a), vi p, vi lo, vi hi, .c (.ptr b 0 16)] (m.set b (blkB met)) = some ⟨vb (Pt n f p lo hi met).1, m.set b (blkB (Pt n f p lo hi met).2), 0, W⟩ := by
 intro n
 induction n with
 | zero => intro k m b f a p lo hi met hk hb hn; omega
 | succ n ih =>
  intro k m b f a p lo hi met hk0 hb hn hlo hhi hlo2 hhi2
  obtain ⟨k, rfl⟩ : ∃ k', k = k' + 1 := ⟨k - 1, by omega⟩
  rw [den_eq T_112]
  have hW : m.length - b ≠ 0 := by omega
  by_cases hp : p = -1
  ·subst hp
   exact ⟨0, Nat.zero_le _, by simp (maxSteps := 1000000) -implicitDefEqProofs (disch := omega) [-getElem?_pos, c_impl_Tree_isPart, Pt_end]⟩
  ·cases hin : inB p 0 15 with
   | false => exact ⟨0, Nat.zero_le _, by rw [Pt_bad hp (by simp [hin])]; simp (maxSteps := 1000000) -implicitDefEqProofs (disch := omega) [-getElem?_pos, c_impl_Tree_isPart, hp, den_in (k + 1), hin]⟩
   | true =>
    have hin' := inB_iff.mp hin
    obtain ⟨q, rfl⟩ : ∃ q : Nat, p = q := ⟨p.toNat, by omega⟩
    have hq : q < 16 := by omega
    have hp' : ¬ (q : Int) = -1 := hp
    cases hm : met q with
    | true => exact ⟨0, Nat.zero_le _, by rw [Pt_bad hp (by simp [hm])]; simp (maxSteps := 1000000) -implicitDefEqProofs (disch := omega) [-getElem?_pos, c_impl_Tree_isPart, hp', den_in (k + 1), hin, hm]⟩
    | false =>
     cases hu : (f q).u with
     | false => exact ⟨0, Nat.zero_le _, by rw [Pt_bad hp (by simp [hu])]; simp (maxSteps := 1000000) -implicitDefEqProofs (disch := omega) [-getElem?_pos, c_impl_Tree_isPart, hp', den_in (k + 1), hin, hm, hu]⟩
     | true =>
      cases hk : inB (f q).a lo hi with
      | false => exact ⟨0, Nat.zero_le _, by rw [Pt_bad hp (by simp [hk])]; simp (maxSteps := 1000000) -implicitDefEqProofs (disch := omega) [-getElem?_pos, c_impl_Tree_isPart, hp', den_in (k + 1), hin, hm, hu, hk]⟩
      | true =>
       have hk' := inB_iff.mp hk
       have hop := openC_met hq hu hm
       rw [Pt_go hq hm hu hk]
       obtain ⟨W1, w1, e1⟩ := ih k (m ++ [⟨chn f a, 49, 0, true⟩, ⟨nd (f q), 46, 0, true⟩]) b f a (f q).b lo ((f q).a - 1) (upd met q true) (by omega) (by simp; omega) (by omega) hlo (by omega) hlo2 (by omega)
       rw [List.set_append_left _ _ hb, List.set_append_left _ _ hb] at e1
       rw [List.length_append] at w1
       simp only [List.length_cons, List.length_nil] at w1
       cases h1 : (Pt n f (f q).b lo ((f q).a - 1) (upd met q true)).1 with
       | false =>
        refine ⟨mx (m.length - b) (W1 - 2), by rw [mx_eq]; omega, ?_⟩
        rw [h1] at e1
        rw [if_neg (by simp)]
        simp (maxSteps := 1000000) -implicitDefEqProofs (disch := omega) [-getElem?_pos, c_impl_Tree_isPart, hp', den_in (k + 1), hin, hm, hu, hk, znd, nd_g0, nd_g1, nd_g2, nd_g3, nd_lay, wrap_m1, e1, hb]
        intro h; omega
       | true =>
        obtain ⟨W2, w2, e2⟩ := ih k (m ++ [⟨chn f a, 49, 0, true⟩, ⟨nd (f q), 46, 0, true⟩]) b f a (f q).c ((f q).a + 1) hi (Pt n f (f q).b lo ((f q).a - 1) (upd met q true)).2 (by omega) (by simp; omega)
         (Nat.lt_of_le_of_lt (openC_more fun i hi => Pt_more n f _ _ _ _ i hi) (show openC f (upd met q true) < n by omega)) (by omega) hhi (by omega) hhi2
        rw [List.set_append_left _ _ hb, List.set_append_left _ _ hb] at e2
        rw [List.length_append] at w2
        simp only [List.length_cons, List.length_nil] at w2
        refine ⟨mx (m.length - b) (mx (W1 - 2) (W2 - 2)), by rw [mx_eq, mx_eq]; omega, ?_⟩
        rw [h1] at e1
        rw [if_pos rfl]
        have hmx : mx (m.length - b) (mx (W1 - 2) (W2 - 2)) = m.length - b := by rw [mx_eq, mx_eq]; omega
        simp (maxSteps := 1000000) -implicitDefEqProofs (disch := omega) [-getElem?_pos, c_impl_Tree_isPart, hp', den_in (k + 1), hin, hm, hu, hk, znd, nd_g0, nd_g1, nd_g2, nd_g3, nd_lay, wrap_m1, e1, e2, hb]
        rw [if_neg hW, hmx]
theorem eqa_nd (x : Nd) : eqL [none, some .i64, some .i64, some .i64] (nd x) (nd nd0) = some (!x.u && (decide (x.a = 0) && (decide (x.b = 0) && decide (x.c = 0)))) := by
 simp only [nd, nd0, eqL, eqC, Option.bind_some, if_true, and_self, Bool.and_true]
 cases x.u <;> rfl
theorem nd_take (x : Nd) : (nd x).take 4 = nd x := rfl
theorem znd0 : [C.bool false, .int .i64 0, .int .i64 0, .int .i64 0] = nd nd0 := rfl
theorem zbar : [C.bool false, .bool false, .bool false, .bool false, .bool false, .bool false, .bool false, .bool false, .bool false, .bool false, .bool false, .bool false, .bool false, .bool false, .bool false, .bool false] = bar 16 fun _ => false := rfl
theorem den_impl_TreeOk (hL : 100 ≤ L) (k : Nat) (m : List Blk) (f : Nat → Nd) (a : Int) : den T X L (k + 20) 81 [.agg (chn f a)] m = some ⟨vb (treeOkI f a), m, 0, 0⟩ := by
 rw [den_eq T_81]
 obtain ⟨W, hW, e1⟩ := den_isPart (X := X) hL 17 (k + 17) (m ++ [⟨chn f a, 49, 0, true⟩, blkB fun _ => false]) (m.length + 1) f a a (-1000000000) 1000000000 (fun _ => false) (by omega) (by simp) (Nat.lt_of_le_of_lt (cn_le 16) (by omega)) (by omega) (by omega) (by omega) (by omega)
 rw [set_app, set_app] at e1
 have hW2 : W - 2 = 0 := by simp at hW; omega
 simp only [List.set_cons_succ, List.set_cons_zero] at e1
 unfold treeOkI
 generalize Pt 17 f a (-1000000000) 1000000000 (fun _ => false) = r at e1
 obtain ⟨b, met⟩ := r
 simp only at e1 ⊢
 cases b with
 | false => simp (maxSteps := 1000000) -implicitDefEqProofs (disch := omega) [-getElem?_pos, c_impl_TreeOk, z65, zbar, e1, hW2]
 | true =>
  have hl := iter_all (f := fun s => exec (den T X L (k + 19)) L m.length none c_impl_TreeOk_b0 s) (tr := trim m.length (some [3, 13, 14]))
   (fun i => ⟨[(3, .c (.ptr (m.length + 1) 0 16)), (13, .agg (nds 16 f)), (14, vi i)], m ++ [⟨chn f a, 49, 0, true⟩, blkB met], 0, 0⟩) 16 (fun i => (f i).u = met i ∧ ((f i).u = true ∨ ((f i).a = 0 ∧ (f i).b = 0 ∧ (f i).c = 0))) ⟨[(2, vb false)], m, 0, 0⟩ ?s1 ?s2 ⟨0, _, by simp (maxSteps := 1000000) -implicitDefEqProofs (disch := omega) [-getElem?_pos, c_impl_TreeOk_b0]; rfl⟩
  case s1 =>
   rintro i hi ⟨h1, h2⟩
   have hi' : (i : Int) < 16 := by omega
   cases hu : (f i).u with
   | true =>
    rw [hu] at h1
    refine ⟨_, by simp (maxSteps := 1000000) -implicitDefEqProofs (disch := omega) [-getElem?_pos, c_impl_TreeOk_b0, hi', znd, nd_g0, nd_lay, hu, ← h1, show i * 4 ≤ 60 by omega]; rfl, ?_⟩
    simp (maxSteps := 1000000) -implicitDefEqProofs (disch := omega) [-getElem?_pos]
   | false =>
    rw [hu] at h1 h2
    obtain ⟨h3, h4, h5⟩ := h2.resolve_left (by simp)
    refine ⟨_, by simp (maxSteps := 1000000) -implicitDefEqProofs (disch := omega) [-getElem?_pos, c_impl_TreeOk_b0, hi', znd0, nd_g0, nd_lay, nd_take, hu, ← h1, eqa_nd, h3, h4, h5, show i * 4 ≤ 60 by omega]; rfl, ?_⟩
    simp (maxSteps := 1000000) -implicitDefEqProofs (disch := omega) [-getElem?_pos]
  case s2 =>
   intro i hi h
   have hi' : (i : Int) < 16 := by omega
   by_cases h1 : (f i).u = met i
   ·cases hu : (f i).u with
    | true => exact absurd ⟨h1, .inl hu⟩ h
    | false =>
     rw [hu] at h1
     by_cases ha : (f i).a = 0
     ·by_cases hb : (f i).b = 0
      ·have hc : ¬ (f i).c = 0 := fun hc => h ⟨by rw [hu]; exact h1, .inr ⟨ha, hb, hc⟩⟩
       simp (maxSteps := 1000000) -implicitDefEqProofs (disch := omega) [-getElem?_pos, c_impl_TreeOk_b0, hi', znd0, nd_g0, nd_lay, nd_take, hu, ← h1, eqa_nd, ha, hb, hc, show i * 4 ≤ 60 by omega]
      ·simp (maxSteps := 1000000) -implicitDefEqProofs (disch := omega) [-getElem?_pos, c_impl_TreeOk_b0, hi', znd0, nd_g0, nd_lay, nd_take, hu, ← h1, eqa_nd, ha, hb, show i * 4 ≤ 60 by omega]
     ·simp (maxSteps := 1000000) -implicitDefEqProofs (disch := omega) [-getElem?_pos, c_impl_TreeOk_b0, hi', znd0, nd_g0, nd_lay, nd_take, hu, ← h1, eqa_nd, ha, show i * 4 ≤ 60 by omega]
   ·have h2 : ((f i).u == met i) = false := by simpa using h1
    simp (maxSteps := 1000000) -implicitDefEqProofs (disch := omega) [-getElem?_pos, c_impl_TreeOk_b0, hi', znd0, nd_g0, nd_lay, nd_take, h2, show i * 4 ≤ 60 by omega]
  simp (maxSteps := 1000000) -implicitDefEqProofs (disch := omega) [-getElem?_pos, c_impl_TreeOk, z65, zbar, e1, hW2]
  rw [hl L 0 _ ?tr (by omega) (by omega)]
  case tr => simp (maxSteps := 1000000) -implicitDefEqProofs (disch := omega) [-getElem?_pos]
  by_cases hok : ∀ i : Nat, i < 16 → (f i).u = met i ∧ ((f i).u = true ∨ ((f i).a = 0 ∧ (f i).b = 0 ∧ (f i).c = 0))
  ·rw [if_pos fun j h1 _ => hok j h1, decide_eq_true hok]
   simp (maxSteps := 1000000) -implicitDefEqProofs (disch := omega) [-getElem?_pos, c_impl_TreeOk_b0]
  ·rw [if_neg fun h' => hok fun j h1 => h' j h1 (Nat.zero_le _), decide_eq_false hok]
   simp (maxSteps := 1000000) -implicitDefEqProofs (disch := omega) [-getElem?_pos]
end Go.Proofs.YtfbeplbcaanimaaGreat
set_option linter.unusedVariables false
set_option linter.unusedSimpArgs false
set_option maxHeartbeats 4000000
namespace Go.Proofs.YtfbeplbcaanimaaGreat
variable {X : FuncId → List V → List Blk → Option Ret} {L : Nat}
def toI (l : List Nat) : List Int := l.map fun (x : Nat) => (x : Int)
theorem toI_len (l : List Nat) : (toI l).length = l.length := by simp [toI]
theorem toI_snoc (l : List Nat) (q : Nat) : toI l ++ [(q : Int)] = toI (l ++ [q]) := by simp [toI]
theorem K_len : ∀ (n : Nat) (f : Nat → Nd) (p : Int) (out : List Nat), out.length ≤ 16 → (K n f p out).1.length ≤ 16
 | 0, _, _, _, h => h
 | n + 1, f, p, out, h => by
  unfold K
  split
  ·exact h
  ·split
   ·split
    ·rename_i hc
     exact K_len n _ _ _ (by simp only [List.length_append, List.length_cons, List.length_nil]; omega)
    ·exact K_len n _ _ _ h
   ·exact h
theorem K_lt : ∀ (n : Nat) (f : Nat → Nd) (p : Int) (out : List Nat), (∀ x ∈ out, x < 16) → ∀ x ∈ (K n f p out).1, x < 16
 | 0, _, _, _, h => h
 | n + 1, f, p, out, h => by
  unfold K
  split
  ·exact h
  ·split
   ·rename_i hc
    simp only [Bool.and_eq_true, inB_iff] at hc
    split
    ·refine K_lt n _ _ _ fun x hx => ?_
     rcases List.mem_append.1 hx with hx | hx
     ·exact K_lt n _ _ _ h x hx
     ·have := List.mem_singleton.1 hx
      omega
    ·exact K_lt n _ _ _ h
   ·exact h
theorem den_l15Keys (hL : 100 ≤ L) : ∀ (n k : Nat) (m : List Blk) (b : Nat) (f : Nat → Nd) (a p : Int) (out : List Nat), n ≤ k → b < m.length → usedC f < n → out.length ≤ 16 →
  ∃ W, W ≤ m.length - b ∧ den T X L (k + 2) 100 [.agg (chn f a), vi p, .c (.sl b 0 out.length out.length)] (m.set b (blkI (toI out))) =
   some ⟨.tup [.c (.sl b 0 (K n f p out).1.length (K n f p out).1.length), vb (K n f p out).2], m.set b (blkI (toI (K n f p out).1)), 0, W⟩ := by
 intro n
 induction n with
 | zero => intro k m b f a p out hk hb hn; omega
 | succ n ih =>
  intro k m b f a p out hk0 hb hn hout
  obtain ⟨k, rfl⟩ : ∃ k', k = k' + 1 := ⟨k - 1, by omega⟩
  rw [den_eq T_100]
  have hW : m.length - b ≠ 0 := by omega
  have hbn : ¬ m.length ≤ b := by omega
  by_cases hp : p = -1
  ·subst hp
   exact ⟨0, Nat.zero_le _, by simp (maxSteps := 1000000) -implicitDefEqProofs (disch := omega) [-getElem?_pos, c_spec_l15Keys, K_end, hb]⟩
  ·cases hin : inB p 0 15 with
   | false => exact ⟨0, Nat.zero_le _, by rw [K_bad hp (by simp [hin])]; simp (maxSteps := 1000000) -implicitDefEqProofs (disch := omega) [-getElem?_pos, c_spec_l15Keys, hp, den_l1In (k + 1), hin, hb]⟩
   | true =>
    have hin' := inB_iff.mp hin
    obtain ⟨q, rfl⟩ : ∃ q : Nat, p = q := ⟨p.toNat, by omega⟩
    have hq : q < 16 := by omega
    have hp' : ¬ (q : Int) = -1 := hp
    cases hu : (f q).u with
    | false => exact ⟨0, Nat.zero_le _, by rw [K_bad hp (by simp [hu])]; simp (maxSteps := 1000000) -implicitDefEqProofs (disch := omega) [-getElem?_pos, c_spec_l15Keys, hp', den_l1In (k + 1), hin, hu, hb]⟩
    | true =>
     by_cases ho : out.length < 16
     ·have hc := usedC_hide hq hu
      have ho' : ¬ (out.length : Int) ≥ 16 := by omega
      rw [K_go hq hu ho]
      obtain ⟨W1, w1, e1⟩ := ih k (m ++ [⟨chn (upd f q nd0) a, 49, 0, true⟩, ⟨nd (f q), 46, 0, true⟩]) b (upd f q nd0) a (f q).b out (by omega) (by simp; omega) (by omega) hout
      rw [List.set_append_left _ _ hb, List.set_append_left _ _ hb] at e1
      rw [List.length_append] at w1
      simp only [List.length_cons, List.length_nil] at w1
      have hlen1 := K_len n (upd f q nd0) (f q).b out hout
      generalize hr1 : K n (upd f q nd0) (f q).b out = r1 at e1 hlen1
      obtain ⟨r1, b1⟩ := r1
      simp only at e1 hlen1
      by_cases hc2 : b1 = true ∧ r1.length < 16
      ·obtain ⟨rfl, hc2⟩ := hc2
       have hc2' : ¬ (r1.length : Int) ≥ 16 := by omega
       obtain ⟨W2, w2, e2⟩ := ih k (m ++ [⟨chn (upd f q nd0) a, 49, 0, true⟩, ⟨nd (f q), 46, 0, true⟩, ⟨[.int .i64 q], 3, 1, true⟩]) b (upd f q nd0) a (f q).c (r1 ++ [q]) (by omega) (by simp; omega) (by omega) (by simp only [List.length_append, List.length_cons, List.length_nil]; omega)
       have hl1 : (r1 ++ [q]).length = r1.length + 1 := by simp
       rw [List.set_append_left _ _ hb, List.set_append_left _ _ hb, hl1] at e2
       simp only [List.length_append, List.length_cons, List.length_nil] at w2
       have hmx : mx (mx (W1 - 2) (m.length - b)) (W2 - 3) = m.length - b := by rw [mx_eq, mx_eq]; omega
       refine ⟨m.length - b, Nat.le_refl _, ?_⟩
       rw [if_pos ⟨rfl, hc2⟩]
       simp (maxSteps := 1000000) -implicitDefEqProofs (disch := omega) [-getElem?_pos, c_spec_l15Keys, hp', den_l1In (k + 1), hin, hu, hb, ho', znd0, nd_g0, nd_g1, nd_g2, nd_g3, nd_lay, e1, hc2', toI_len, ints_snoc, toI_snoc, e2, hbn]
       intro h; omega
      ·rw [if_neg hc2]
       refine ⟨W1 - 2, by omega, ?_⟩
       cases b1 with
       | false =>
        simp (maxSteps := 1000000) -implicitDefEqProofs (disch := omega) [-getElem?_pos, c_spec_l15Keys, hp', den_l1In (k + 1), hin, hu, hb, ho', znd0, nd_g0, nd_g1, nd_g2, nd_g3, nd_lay, e1, toI_len, hbn]
        intro h; omega
       | true =>
        have hc3 : (r1.length : Int) ≥ 16 := by
         have : ¬ r1.length < 16 := fun h => hc2 ⟨rfl, h⟩
         omega
        simp (maxSteps := 1000000) -implicitDefEqProofs (disch := omega) [-getElem?_pos, c_spec_l15Keys, hp', den_l1In (k + 1), hin, hu, hb, ho', znd0, nd_g0, nd_g1, nd_g2, nd_g3, nd_lay, e1, toI_len, hbn, hc3]
        intro h; omega
     ·refine ⟨0, Nat.zero_le _, ?_⟩
      rw [K_bad hp (by simp [ho])]
      simp (maxSteps := 1000000) -implicitDefEqProofs (disch := omega) [-getElem?_pos, c_spec_l15Keys, hp', den_l1In (k + 1), hin, hu, hb, toI_len, show (out.length : Int) ≥ 16 by omega]
theorem toI_get {l : List Nat} {j : Nat} (h : j < l.length) : (ints (toI l))[j]? = some (ci (l.getD j 0 : Nat)) := by
 rw [ints_get' (by rw [toI_len]; exact h)]
 simp [toI, h, List.getD_eq_getElem?_getD]
theorem den_spec_TreeOk (hL : 100 ≤ L) (k : Nat) (m : List Blk) (f : Nat → Nd) (a : Int) : den T X L (k + 20) 59 [.agg (chn f a)] m = some ⟨vb (treeOk f a), m, 0, 0⟩ := by
 rw [den_eq T_59]
 have hl := iter_all (f := fun s => exec (den T X L (k + 19)) L m.length none c_spec_TreeOk_b0 s) (tr := trim m.length (some [1, 3, 4]))
  (fun i => ⟨[(1, .c (.ptr m.length 0 65)), (3, vi (usedTo f i)), (4, vi i)], m ++ [⟨chn f a, 49, 0, true⟩], 0, 0⟩) 16 (fun i => tnOk (f i) = true)
  ⟨[(2, vb false)], m, 0, 0⟩ ?s1 ?s2 ⟨0, _, by simp (maxSteps := 1000000) -implicitDefEqProofs (disch := omega) [-getElem?_pos, c_spec_TreeOk_b0]; rfl⟩
 case s1 =>
  intro i hi hk
  have hi' : (i : Int) < 16 := by omega
  have hu := used_le (f := f) i
  unfold tnOk at hk
  cases h : (f i).u with
  | true =>
   rw [if_pos h] at hk
   refine ⟨_, by simp (maxSteps := 1000000) -implicitDefEqProofs (disch := omega) [-getElem?_pos, c_spec_TreeOk_b0, znd0, nd_g0, nd_g1, nd_lay, nd_take, eqa_nd, hi', den_l1Value (k + 17), h, hk]; rfl, ?_⟩
   simp (maxSteps := 1000000) -implicitDefEqProofs (disch := omega) [-getElem?_pos, used_t h]
  | false =>
   rw [if_neg (by simp [h])] at hk
   simp only [Bool.and_eq_true, decide_eq_true_eq] at hk
   refine ⟨_, by simp (maxSteps := 1000000) -implicitDefEqProofs (disch := omega) [-getElem?_pos, c_spec_TreeOk_b0, znd0, nd_g0, nd_g1, nd_lay, nd_take, eqa_nd, hi', den_l1Value (k + 17), h, hk.1.1, hk.1.2, hk.2]; rfl, ?_⟩
   simp (maxSteps := 1000000) -implicitDefEqProofs (disch := omega) [-getElem?_pos, used_f h]
 case s2 =>
  intro i hi hk
  have hi' : (i : Int) < 16 := by omega
  unfold tnOk at hk
  cases h : (f i).u with
  | true =>
   rw [if_pos h] at hk
   simp (maxSteps := 1000000) -implicitDefEqProofs (disch := omega) [-getElem?_pos, c_spec_TreeOk_b0, znd0, nd_g0, nd_g1, nd_lay, nd_take, eqa_nd, hi', den_l1Value (k + 17), h, hk]
  | false =>
   rw [if_neg (by simp [h])] at hk
   simp only [Bool.and_eq_true, decide_eq_true_eq] at hk
   by_cases ha : (f i).a = 0
   ·by_cases hb : (f i).b = 0
    ·have hc : ¬ (f i).c = 0 := fun hc => hk ⟨⟨ha, hb⟩, hc⟩
     simp (maxSteps := 1000000) -implicitDefEqProofs (disch := omega) [-getElem?_pos, c_spec_TreeOk_b0, znd0, nd_g0, nd_g1, nd_lay, nd_take, eqa_nd, hi', den_l1Value (k + 17), h, ha, hb, hc]
    ·simp (maxSteps := 1000000) -implicitDefEqProofs (disch := omega) [-getElem?_pos, c_spec_TreeOk_b0, znd0, nd_g0, nd_g1, nd_lay, nd_take, eqa_nd, hi', den_l1Value (k + 17), h, ha, hb]
   ·simp (maxSteps := 1000000) -implicitDefEqProofs (disch := omega) [-getElem?_pos, c_spec_TreeOk_b0, znd0, nd_g0, nd_g1, nd_lay, nd_take, eqa_nd, hi', den_l1Value (k + 17), h, ha]
 simp (maxSteps := 1000000) -implicitDefEqProofs (disch := omega) [-getElem?_pos, c_spec_TreeOk]
 rw [hl L 0 _ ?tr (by omega) (by omega)]
 case tr => simp (maxSteps := 1000000) -implicitDefEqProofs (disch := omega) [-getElem?_pos, usedTo, cn]
 unfold treeOk
 by_cases hok : ∀ i : Nat, i < 16 → tnOk (f i) = true
 case neg =>
  rw [if_neg fun h' => hok fun j h1 => h' j h1 (Nat.zero_le _), decide_eq_false hok]
  simp (maxSteps := 1000000) -implicitDefEqProofs (disch := omega) [-getElem?_pos]
 rw [if_pos fun j h1 _ => hok j h1, decide_eq_true hok, Bool.true_and]
 obtain ⟨W, w1, e1⟩ := den_l15Keys (X := X) hL 17 (k + 17) (m ++ [⟨chn f a, 49, 0, true⟩, blkI []]) (m.length + 1) f a a [] (by omega) (by simp) (Nat.lt_of_le_of_lt (cn_le 16) (by omega)) (by simp)
 have hKl := K_len 17 f a [] (by simp)
 have hKt := K_lt 17 f a [] (by simp)
 have hus := cn_le (q := fun i => (f i).u) 16
 generalize K 17 f a [] = r at e1 hKl hKt
 obtain ⟨l, ok⟩ := r
 simp only at hKl hKt ⊢
 rw [set_app, set_app] at e1
 simp only [List.set_cons_succ, List.set_cons_zero, List.length_nil] at e1
 have e1' : den T X L (k + 19) 100 [.agg (chn f a), vi a, .c (.sl (m.length + 1) 0 0 0)] (m ++ [⟨chn f a, 49, 0, true⟩, ⟨[], 3, 1, true⟩]) = some ⟨.tup [.c (.sl (m.length + 1) 0 l.length l.length), vb ok], m ++ [⟨chn f a, 49, 0, true⟩, blkI (toI l)], 0, W⟩ := e1
 have hW : W - 2 = 0 := by simp at w1; omega
 have hgt : ∀ j, l.getD j 0 < 16 := fun j => by
  rw [List.getD_eq_getElem?_getD]
  cases h : l[j]? with
  | none => simp
  | some x => exact hKt x (List.mem_of_getElem? h)
 have hl2 := iter_all (f := fun s => exec (den T X L (k + 19)) L m.length none c_spec_TreeOk_b1 s) (tr := trim m.length (some [1, 3, 6, 7, 8]))
  (fun i => ⟨[(1, .c (.ptr m.length 0 65)), (3, vi (usedTo f 16)), (6, .c (.sl (m.length + 1) 0 l.length l.length)), (7, vb ok), (8, vi ((i : Int) + 1))], m ++ [⟨chn f a, 49, 0, true⟩, blkI (toI l)], 0, 0⟩) (l.length - 1) (fun i => keyAt f l i < keyAt f l (i + 1))
  ⟨[(2, vb false)], m, 0, 0⟩ ?t1 ?t2 ⟨2, _, by simp (maxSteps := 1000000) -implicitDefEqProofs (disch := omega) [-getElem?_pos, c_spec_TreeOk_b1, toI_len, show ¬ (((l.length - 1 : Nat) : Int) + 1 < (l.length : Int)) by omega]; rfl⟩
 case t1 =>
  intro i hi hk
  have hi' : (i : Int) + 1 < (l.length : Int) := by omega
  have q1 := hgt i
  have q2 := hgt (i + 1)
  have g1 := toI_get (l := l) (j := i) (by omega)
  have g2 := toI_get (l := l) (j := i + 1) (by omega)
  unfold keyAt at hk
  generalize l.getD i 0 = x at q1 g1 hk
  generalize l.getD (i + 1) 0 = y at q2 g2 hk
  have hk' : ¬ (f x).a ≥ (f y).a := by omega
  refine ⟨_, by simp (maxSteps := 1000000) -implicitDefEqProofs (disch := omega) [-getElem?_pos, c_spec_TreeOk_b1, toI_len, hi', show (i : Int) + 1 - 1 = i by omega, show ((i : Int) + 1).toNat = i + 1 by omega, g1, g2, hk']; rfl, ?_⟩
  simp (maxSteps := 1000000) -implicitDefEqProofs (disch := omega) [-getElem?_pos]
 case t2 =>
  intro i hi hk
  have hi' : (i : Int) + 1 < (l.length : Int) := by omega
  have q1 := hgt i
  have q2 := hgt (i + 1)
  have g1 := toI_get (l := l) (j := i) (by omega)
  have g2 := toI_get (l := l) (j := i + 1) (by omega)
  unfold keyAt at hk
  generalize l.getD i 0 = x at q1 g1 hk
  generalize l.getD (i + 1) 0 = y at q2 g2 hk
  have hk' : (f x).a ≥ (f y).a := by omega
  simp (maxSteps := 1000000) -implicitDefEqProofs (disch := omega) [-getElem?_pos, c_spec_TreeOk_b1, toI_len, hi', show (i : Int) + 1 - 1 = i by omega, show ((i : Int) + 1).toNat = i + 1 by omega, g1, g2, hk']
 simp (maxSteps := 1000000) -implicitDefEqProofs (disch := omega) [-getElem?_pos, c_spec_TreeOk_b0, e1', hW]
 rw [hl2 L 0 _ ?tr2 (Nat.zero_le _) (by omega)]
 case tr2 => simp (maxSteps := 1000000) -implicitDefEqProofs (disch := omega) [-getElem?_pos]
 by_cases hasc : ∀ i, i < l.length - 1 → keyAt f l i < keyAt f l (i + 1)
 ·have : ascI f l := fun j hj h1 => by
   have := hasc (j - 1) (by omega)
   rwa [show j - 1 + 1 = j by omega] at this
  rw [if_pos fun j h1 _ => hasc j h1, decide_eq_true this, Bool.true_and]
  have hus : usedC f = usedTo f 16 := rfl
  rw [hus]
  cases ok with
  | false => simp (maxSteps := 1000000) -implicitDefEqProofs (disch := omega) [-getElem?_pos, c_spec_TreeOk_b1, toI_len, show ¬ (((l.length - 1 : Nat) : Int) + 1 < (l.length : Int)) by omega]
  | true =>
   by_cases hlu : l.length = usedTo f 16
   ·simp (maxSteps := 1000000) -implicitDefEqProofs (disch := omega) [-getElem?_pos, c_spec_TreeOk_b1, toI_len, hlu, show ¬ (((usedTo f 16 - 1 : Nat) : Int) + 1 < (usedTo f 16 : Nat)) by omega]
   ·simp (maxSteps := 1000000) -implicitDefEqProofs (disch := omega) [-getElem?_pos, c_spec_TreeOk_b1, toI_len, show ¬ (((l.length - 1 : Nat) : Int) + 1 < (l.length : Int)) by omega, hlu, show ¬ ((l.length : Int) = (usedTo f 16 : Nat)) by omega]
 ·have : ¬ ascI f l := fun h => hasc fun i hi => by
   have := h (i + 1) (by omega) (by omega)
   simpa using this
  rw [if_neg fun h => hasc fun j h1 => h j h1 (Nat.zero_le _), decide_eq_false this]
  simp (maxSteps := 1000000) -implicitDefEqProofs (disch := omega) [-getElem?_pos]
end Go.Proofs.YtfbeplbcaanimaaGreat
set_option linter.unusedVariables false
set_option linter.unusedSimpArgs false
set_option maxHeartbeats 4000000
namespace Go.Proofs.YtfbeplbcaanimaaGreat
variable {X : FuncId → List V → List Blk → Option Ret} {L : Nat}
theorem den_toTwig (k : Nat) (m : List Blk) (x : Nd) : den T X L (k + 1) 109 [.agg (nd x)] m = some ⟨.agg (nd x), m, 0, 0⟩ := by
 rw [den_eq T_109]
 simp (maxSteps := 1000000) -implicitDefEqProofs (disch := omega) [-getElem?_pos, c_laws_toTwig, nd]
theorem den_toTwigA16 (hL : 100 ≤ L) (k : Nat) (m : List Blk) (f : Nat → Nd) : den T X L (k + 2) 76 [.agg (nds 16 f)] m = some ⟨.agg (nds 16 f), m, 0, 0⟩ := by
 rw [den_eq T_76]
 have hl := iter_up (f := fun s => exec (den T X L (k + 1)) L m.length none c_laws_toTwigA16_b0 s) (tr := trim m.length (some [1, 2, 3, 4]))
  (fun i => ⟨[(1, .c (.ptr m.length 0 64)), (2, .c (.ptr (m.length + 1) 0 64)), (3, .c (.ptr (m.length + 2) 0 64)), (4, vi i)], m ++ [⟨nds 16 f, 32, 0, true⟩, ⟨nds 16 fun _ => nd0, 47, 0, true⟩, ⟨nds 16 fun j => if j < i then f j else nd0, 47, 0, true⟩], 0, 0⟩) 16
  ?s1 ⟨0, _, by simp (maxSteps := 1000000) -implicitDefEqProofs (disch := omega) [-getElem?_pos, c_laws_toTwigA16_b0]; rfl⟩
 case s1 =>
  intro i hi
  refine ⟨_, by simp (maxSteps := 1000000) -implicitDefEqProofs (disch := omega) [-getElem?_pos, c_laws_toTwigA16_b0, show (i : Int) < 16 by omega, den_toTwig]; rfl, ?_⟩
  simp (maxSteps := 1000000) -implicitDefEqProofs (disch := omega) [-getElem?_pos]
  refine nds_ext fun j hj => ?_
  unfold upd
  by_cases h1 : j = i
  ·subst h1; simp
  ·by_cases h2 : j < i
   ·simp [h1, h2, show j < i + 1 by omega]
   ·simp [h1, h2, show ¬ j < i + 1 by omega]
 simp (maxSteps := 1000000) -implicitDefEqProofs (disch := omega) [-getElem?_pos, c_laws_toTwigA16, z64]
 rw [hl L 0 _ ?tr (by omega) (by omega)]
 case tr => simp (maxSteps := 1000000) -implicitDefEqProofs (disch := omega) [-getElem?_pos, nds_refs]
 simp (maxSteps := 1000000) -implicitDefEqProofs (disch := omega) [-getElem?_pos, c_laws_toTwigA16_b0]
 exact nds_ext fun j hj => by simp [hj]
theorem den_toTree (hL : 100 ≤ L) (k : Nat) (m : List Blk) (f : Nat → Nd) (a : Int) : den T X L (k + 3) 41 [.agg (chn f a)] m = some ⟨.agg (chn f a), m, 0, 0⟩ := by
 rw [den_eq T_41]
 simp (maxSteps := 1000000) -implicitDefEqProofs (disch := omega) [-getElem?_pos, c_laws_toTree, z65, den_toTwigA16 hL]
end Go.Proofs.YtfbeplbcaanimaaGreat
set_option linter.unusedVariables false
set_option linter.unusedSimpArgs false
set_option maxHeartbeats 4000000
namespace Go.Proofs.YtfbeplbcaanimaaGreat
variable {X : FuncId → List V → List Blk → Option Ret} {L : Nat}
end Go.Proofs.YtfbeplbcaanimaaGreat
set_option linter.unusedVariables false
set_option linter.unusedSimpArgs false
set_option maxHeartbeats 4000000
namespace Go.Proofs.YtfbeplbcaanimaaGreat
variable {X : FuncId → List V → List Blk → Option Ret} {L : Nat}
end Go.Proofs.YtfbeplbcaanimaaGreat
