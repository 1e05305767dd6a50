/-
  Trees: the program's test, run.
-/
import Derived.Test.YtonkgmajfcpeeaaTm
import Derived.Test.YtonkgmajfcpeeaaC8
set_option linter.unusedVariables false
set_option linter.unusedSimpArgs false
set_option maxHeartbeats 4000000
namespace Go.Proofs.Ytonkgmajfcpeeaa
variable {X : FuncId → List V → List Blk → Option Ret} {L : Nat}

abbrev blkB (met : Nat → Bool) : Blk := ⟨bar 16 met, 79, 0, true⟩
theorem wrap_m1 {x : Int} (h : -2000000000 ≤ x ∧ x ≤ 2000000000) : IntKind.i64.wrap (x - 1) = x - 1 := wrap_pos (by omega)

/-- How many nodes are used and not met. -/
def openC (f : Nat → Nd) (met : Nat → Bool) : Nat := cn (fun i => (f i).u && !(met i)) 16
theorem openC_met {f : Nat → Nd} {met : Nat → Bool} {q : Nat} (hq : q < 16) (hu : (f q).u = true) (hm : met q = false) : openC f (upd met q true) < openC f met := by
  have := cn_add (q := fun i => (f i).u && !(upd met q true i)) (q' := fun i => (f i).u && !(met i)) 16 (fun i _ h => by
    by_cases e : i = q
    · subst e; rw [upd_at] at h; simp at h
    · rwa [upd_ne _ _ e] at h) q hq (by rw [upd_at]; simp) (by simp [hu, hm])
  exact this
theorem openC_more {f : Nat → Nd} {met met' : Nat → Bool} (h : ∀ i, met i = true → met' i = true) : openC f met' ≤ openC f met := cn_mono 16 fun i _ hi => by
  simp only [Bool.and_eq_true, Bool.not_eq_true'] at hi ⊢
  refine ⟨hi.1, ?_⟩
  cases hm : met i with
  | false => rfl
  | true => rw [h i hm] at hi; simp at hi
theorem Pt_more : ∀ (n : Nat) (f : Nat → Nd) (p lo hi : Int) (met : Nat → Bool) (i : Nat), met i = true → (Pt n f p lo hi met).2 i = true
  | 0, _, _, _, _, _, _, h => h
  | n + 1, f, p, lo, hi, met, i, h => by
    by_cases hp : p = -1
    · subst hp; exact h
    · cases hc : (inB p 0 15 && !(met p.toNat) && (f p.toNat).u && inB (f p.toNat).a lo hi) with
      | false => rw [Pt_bad hp hc]; exact h
      | true =>
        simp only [Bool.and_eq_true, inB_iff, Bool.not_eq_true'] at hc
        obtain ⟨q, rfl⟩ : ∃ q : Nat, p = q := ⟨p.toNat, by omega⟩
        rw [Int.toNat_natCast] at hc
        have h0 : upd met q true i = true := by
          by_cases e : i = q
          · subst e; rw [upd_at]
          · rw [upd_ne _ _ e]; exact h
        have h1 := Pt_more n f (f q).b lo ((f q).a - 1) (upd met q true) i h0
        rw [Pt_go (by omega) hc.1.1.2 hc.1.2 (inB_pos hc.2)]
        split
        · exact Pt_more n f _ _ _ _ i h1
        · exact h1

theorem den_isPart (hL : 100 ≤ L) : ∀ (n k : Nat) (m : List Blk) (b : Nat) (f : Nat → Nd) (a p lo hi : Int) (met : Nat → Bool), n ≤ k → b < m.length → openC f met < n → -1000000001 ≤ lo → hi ≤ 1000000001 → lo ≤ 1000000002 → -1000000002 ≤ hi →
    ∃ W, W ≤ m.length - b ∧ den T X L (k + 2) 54 [.agg (chn f a), vi p, vi lo, vi hi, .c (.ptr b 0 16)] (m.set b (blkB met)) = some ⟨vb (Pt n f p lo hi met).1, m.set b (blkB (Pt n f p lo hi met).2), 0, W⟩ := by
  intro n
  induction n with
  | zero => intro k m b f a p lo hi met hk hb hn; omega
  | succ n ih =>
    intro k m b f a p lo hi met hk0 hb hn hlo hhi hlo2 hhi2
    obtain ⟨k, rfl⟩ : ∃ k', k = k' + 1 := ⟨k - 1, by omega⟩
    rw [den_eq T_54]
    have hW : m.length - b ≠ 0 := by omega
    by_cases hp : p = -1
    · subst hp
      exact ⟨0, Nat.zero_le _, by simp (maxSteps := 1000000) (implicitDefEqProofs := false) (disch := omega) [-getElem?_pos, c_impl_Tree_isPart, Pt_end]⟩
    · cases hin : inB p 0 15 with
      | false => exact ⟨0, Nat.zero_le _, by rw [Pt_bad hp (by simp [hin])]; simp (maxSteps := 1000000) (implicitDefEqProofs := false) (disch := omega) [-getElem?_pos, c_impl_Tree_isPart, hp, den_in (k + 1), hin]⟩
      | true =>
        have hin' := inB_iff.mp hin
        obtain ⟨q, rfl⟩ : ∃ q : Nat, p = q := ⟨p.toNat, by omega⟩
        have hq : q < 16 := by omega
        have hp' : ¬ (q : Int) = -1 := hp
        cases hm : met q with
        | true => exact ⟨0, Nat.zero_le _, by rw [Pt_bad hp (by simp [hm])]; simp (maxSteps := 1000000) (implicitDefEqProofs := false) (disch := omega) [-getElem?_pos, c_impl_Tree_isPart, hp', den_in (k + 1), hin, hm]⟩
        | false =>
          cases hu : (f q).u with
          | false => exact ⟨0, Nat.zero_le _, by rw [Pt_bad hp (by simp [hu])]; simp (maxSteps := 1000000) (implicitDefEqProofs := false) (disch := omega) [-getElem?_pos, c_impl_Tree_isPart, hp', den_in (k + 1), hin, hm, hu]⟩
          | true =>
            cases hk : inB (f q).a lo hi with
            | false => exact ⟨0, Nat.zero_le _, by rw [Pt_bad hp (by simp [hk])]; simp (maxSteps := 1000000) (implicitDefEqProofs := false) (disch := omega) [-getElem?_pos, c_impl_Tree_isPart, hp', den_in (k + 1), hin, hm, hu, hk]⟩
            | true =>
              have hk' := inB_iff.mp hk
              have hop := openC_met hq hu hm
              rw [Pt_go hq hm hu hk]
              obtain ⟨W1, w1, e1⟩ := ih k (m ++ [⟨chn f a, 43, 0, true⟩, ⟨nd (f q), 40, 0, true⟩]) b f a (f q).b lo ((f q).a - 1) (upd met q true) (by omega) (by simp; omega) (by omega) hlo (by omega) hlo2 (by omega)
              rw [List.set_append_left _ _ hb, List.set_append_left _ _ hb] at e1
              rw [List.length_append] at w1
              simp only [List.length_cons, List.length_nil] at w1
              cases h1 : (Pt n f (f q).b lo ((f q).a - 1) (upd met q true)).1 with
              | false =>
                refine ⟨mx (m.length - b) (W1 - 2), by rw [mx_eq]; omega, ?_⟩
                rw [h1] at e1
                rw [if_neg (by simp)]
                simp (maxSteps := 1000000) (implicitDefEqProofs := false) (disch := omega) [-getElem?_pos, c_impl_Tree_isPart, hp', den_in (k + 1), hin, hm, hu, hk, znd, nd_g0, nd_g1, nd_g2, nd_g3, nd_lay, wrap_m1, e1, hb]
                intro h; omega
              | true =>
                obtain ⟨W2, w2, e2⟩ := ih k (m ++ [⟨chn f a, 43, 0, true⟩, ⟨nd (f q), 40, 0, true⟩]) b f a (f q).c ((f q).a + 1) hi (Pt n f (f q).b lo ((f q).a - 1) (upd met q true)).2 (by omega) (by simp; omega)
                  (Nat.lt_of_le_of_lt (openC_more fun i hi => Pt_more n f _ _ _ _ i hi) (show openC f (upd met q true) < n by omega)) (by omega) hhi (by omega) hhi2
                rw [List.set_append_left _ _ hb, List.set_append_left _ _ hb] at e2
                rw [List.length_append] at w2
                simp only [List.length_cons, List.length_nil] at w2
                refine ⟨mx (m.length - b) (mx (W1 - 2) (W2 - 2)), by rw [mx_eq, mx_eq]; omega, ?_⟩
                rw [h1] at e1
                rw [if_pos rfl]
                have hmx : mx (m.length - b) (mx (W1 - 2) (W2 - 2)) = m.length - b := by rw [mx_eq, mx_eq]; omega
                simp (maxSteps := 1000000) (implicitDefEqProofs := false) (disch := omega) [-getElem?_pos, c_impl_Tree_isPart, hp', den_in (k + 1), hin, hm, hu, hk, znd, nd_g0, nd_g1, nd_g2, nd_g3, nd_lay, wrap_m1, e1, e2, hb]
                rw [if_neg hW, hmx]

theorem eqa_nd (x : Nd) : eqL [none, some .i64, some .i64, some .i64] (nd x) (nd nd0) = some (!x.u && (decide (x.a = 0) && (decide (x.b = 0) && decide (x.c = 0)))) := by
  simp only [nd, nd0, eqL, eqC, Option.bind_some, if_true, and_self, Bool.and_true]
  cases x.u <;> rfl
theorem nd_take (x : Nd) : (nd x).take 4 = nd x := rfl
theorem znd0 : [C.bool false, .int .i64 0, .int .i64 0, .int .i64 0] = nd nd0 := rfl
def iok (x : Nd) (b : Bool) : Prop := x.u = b ∧ (x.u = true ∨ (x.a = 0 ∧ x.b = 0 ∧ x.c = 0))
theorem zbar : [C.bool false, .bool false, .bool false, .bool false, .bool false, .bool false, .bool false, .bool false, .bool false, .bool false, .bool false, .bool false, .bool false, .bool false, .bool false, .bool false] = bar 16 fun _ => false := rfl
theorem den_impl_TreeOk (hL : 100 ≤ L) (k : Nat) (m : List Blk) (f : Nat → Nd) (a : Int) : den T X L (k + 20) 20 [.agg (chn f a)] m = some ⟨vb (treeOkI f a), m, 0, 0⟩ := by
  rw [den_eq T_20]
  obtain ⟨W, hW, e1⟩ := den_isPart (X := X) hL 17 (k + 17) (m ++ [⟨chn f a, 43, 0, true⟩, blkB fun _ => false]) (m.length + 1) f a a (-1000000000) 1000000000 (fun _ => false) (by omega) (by simp) (Nat.lt_of_le_of_lt (cn_le 16) (by omega)) (by omega) (by omega) (by omega) (by omega)
  rw [set_app, set_app] at e1
  have hW2 : W - 2 = 0 := by simp at hW; omega
  simp only [List.set_cons_succ, List.set_cons_zero] at e1
  unfold treeOkI
  generalize Pt 17 f a (-1000000000) 1000000000 (fun _ => false) = r at e1
  obtain ⟨b, met⟩ := r
  simp only at e1 ⊢
  cases b with
  | false => simp (maxSteps := 1000000) (implicitDefEqProofs := false) (disch := omega) [-getElem?_pos, c_impl_TreeOk, z65, zbar, e1, hW2]
  | true =>
    have hl := iter_all (f := fun s => exec (den T X L (k + 19)) L m.length none c_impl_TreeOk_b0 s) (tr := trim m.length (some [3, 13, 14]))
      (fun i => ⟨[(3, .c (.ptr (m.length + 1) 0 16)), (13, .agg (nds 16 f)), (14, vi i)], m ++ [⟨chn f a, 43, 0, true⟩, blkB met], 0, 0⟩) 16 (fun i => (f i).u = met i ∧ ((f i).u = true ∨ ((f i).a = 0 ∧ (f i).b = 0 ∧ (f i).c = 0))) ⟨[(2, vb false)], m, 0, 0⟩ ?s1 ?s2 ⟨0, _, by simp (maxSteps := 1000000) (implicitDefEqProofs := false) (disch := omega) [-getElem?_pos, c_impl_TreeOk_b0]; rfl⟩
    case s1 =>
      rintro i hi ⟨h1, h2⟩
      have hi' : (i : Int) < 16 := by omega
      cases hu : (f i).u with
      | true =>
        rw [hu] at h1
        refine ⟨_, by simp (maxSteps := 1000000) (implicitDefEqProofs := false) (disch := omega) [-getElem?_pos, c_impl_TreeOk_b0, hi', znd, nd_g0, nd_lay, hu, ← h1, show i * 4 ≤ 60 by omega]; rfl, ?_⟩
        simp (maxSteps := 1000000) (implicitDefEqProofs := false) (disch := omega) [-getElem?_pos]
      | false =>
        rw [hu] at h1 h2
        obtain ⟨h3, h4, h5⟩ := h2.resolve_left (by simp)
        refine ⟨_, by simp (maxSteps := 1000000) (implicitDefEqProofs := false) (disch := omega) [-getElem?_pos, c_impl_TreeOk_b0, hi', znd0, nd_g0, nd_lay, nd_take, hu, ← h1, eqa_nd, h3, h4, h5, show i * 4 ≤ 60 by omega]; rfl, ?_⟩
        simp (maxSteps := 1000000) (implicitDefEqProofs := false) (disch := omega) [-getElem?_pos]
    case s2 =>
      intro i hi h
      have hi' : (i : Int) < 16 := by omega
      by_cases h1 : (f i).u = met i
      · cases hu : (f i).u with
        | true => exact absurd ⟨h1, .inl hu⟩ h
        | false =>
          rw [hu] at h1
          by_cases ha : (f i).a = 0
          · by_cases hb : (f i).b = 0
            · have hc : ¬ (f i).c = 0 := fun hc => h ⟨by rw [hu]; exact h1, .inr ⟨ha, hb, hc⟩⟩
              simp (maxSteps := 1000000) (implicitDefEqProofs := false) (disch := omega) [-getElem?_pos, c_impl_TreeOk_b0, hi', znd0, nd_g0, nd_lay, nd_take, hu, ← h1, eqa_nd, ha, hb, hc, show i * 4 ≤ 60 by omega]
            · simp (maxSteps := 1000000) (implicitDefEqProofs := false) (disch := omega) [-getElem?_pos, c_impl_TreeOk_b0, hi', znd0, nd_g0, nd_lay, nd_take, hu, ← h1, eqa_nd, ha, hb, show i * 4 ≤ 60 by omega]
          · simp (maxSteps := 1000000) (implicitDefEqProofs := false) (disch := omega) [-getElem?_pos, c_impl_TreeOk_b0, hi', znd0, nd_g0, nd_lay, nd_take, hu, ← h1, eqa_nd, ha, show i * 4 ≤ 60 by omega]
      · have h2 : ((f i).u == met i) = false := by simpa using h1
        simp (maxSteps := 1000000) (implicitDefEqProofs := false) (disch := omega) [-getElem?_pos, c_impl_TreeOk_b0, hi', znd0, nd_g0, nd_lay, nd_take, h2, show i * 4 ≤ 60 by omega]
    simp (maxSteps := 1000000) (implicitDefEqProofs := false) (disch := omega) [-getElem?_pos, c_impl_TreeOk, z65, zbar, e1, hW2]
    rw [hl L 0 _ ?tr (by omega) (by omega)]
    case tr => simp (maxSteps := 1000000) (implicitDefEqProofs := false) (disch := omega) [-getElem?_pos]
    by_cases hok : ∀ i : Nat, i < 16 → (f i).u = met i ∧ ((f i).u = true ∨ ((f i).a = 0 ∧ (f i).b = 0 ∧ (f i).c = 0))
    · rw [if_pos fun j h1 _ => hok j h1, decide_eq_true hok]
      simp (maxSteps := 1000000) (implicitDefEqProofs := false) (disch := omega) [-getElem?_pos, c_impl_TreeOk_b0]
    · rw [if_neg fun h' => hok fun j h1 => h' j h1 (Nat.zero_le _), decide_eq_false hok]
      simp (maxSteps := 1000000) (implicitDefEqProofs := false) (disch := omega) [-getElem?_pos]
end Go.Proofs.Ytonkgmajfcpeeaa
