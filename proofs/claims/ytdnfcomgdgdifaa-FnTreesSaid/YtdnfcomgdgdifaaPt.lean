/-
  Trees, in plain terms: what stands left and right of a place; added, dropped.
-/
import Derived.Test.YtdnfcomgdgdifaaTd
set_option linter.unusedVariables false
set_option linter.unusedSimpArgs false
namespace Go.Proofs.Ytdnfcomgdgdifaa

/-- A right tree's places, in order. -/
structure Tree (f : Nat → Nd) (a : Int) (l : List Nat) : Prop where
  tr : Tr f a l
  asc : asc f l
  used : ∀ i, i < 16 → (f i).u = l.contains i
  ok : ∀ i, i < 16 → tnOk (f i) = true
theorem Tree.of {f : Nat → Nd} {a : Int} (h : treeOk f a = true) : ∃ l, Tree f a l := by
  obtain ⟨l, _, h1, h2, h3, h4, _⟩ := tree_spec h
  exact ⟨l, h1, h2, h3, h4⟩
section
variable {f : Nat → Nd} {a : Int} {l : List Nat}
theorem Tree.nodup (h : Tree f a l) : l.Nodup := asc_nodup h.asc
theorem Tree.len (h : Tree f a l) : l.length = usedC f ∧ l.length ≤ 16 := by
  have h1 := cn_mem h.nodup fun x hx => (h.tr.mem hx).1
  have h2 := cn_congr 16 (q := fun i => (f i).u) (q' := fun i => l.contains i) h.used
  have h3 : l.length = usedC f := by unfold usedC; omega
  exact ⟨h3, by rw [h3]; exact cn_le 16⟩
theorem Tree.K (h : Tree f a l) : K 17 f a [] = (l, true) := by
  have := K_complete 17 f a [] l h.tr (by simp; exact h.len.2) (Nat.lt_of_le_of_lt (cn_le 16) (by omega))
  simpa using this
theorem Tree.treeOk (h : Tree f a l) : treeOk f a = true := by
  unfold Go.Proofs.Ytdnfcomgdgdifaa.treeOk
  rw [h.K]
  simp only [Bool.and_eq_true, decide_eq_true_eq]
  exact ⟨h.ok, ascI_of_asc h.asc, trivial, h.len.1⟩
theorem Tree.keys (h : Tree f a l) : treeKeys f a = kl f l := by
  unfold treeKeys
  rw [if_pos h.treeOk, h.K]
theorem Tree.mem (h : Tree f a l) {q : Nat} (hq : q ∈ l) : q < 16 ∧ (f q).u = true ∧ isVal (f q).a = true := by
  obtain ⟨h1, h2, _⟩ := h.tr.mem hq
  have := h.ok q h1
  unfold tnOk at this
  rw [if_pos h2] at this
  exact ⟨h1, h2, this⟩
end
/-- What stands left and right of a place in the whole tree. -/
inductive Cx (f : Nat → Nd) (a : Int) : Way → List Nat → List Nat → Prop
  | root : Cx f a none [] []
  | left {w : Way} {q : Nat} {r l1 l2 : List Nat} (h : Cx f a w l1 l2) (hv : valW f a w = q) (hq : q < 16) (hu : (f q).u = true) (hr : Tr f (f q).c r) : Cx f a (some (q, false)) l1 (q :: (r ++ l2))
  | right {w : Way} {q : Nat} {l l1 l2 : List Nat} (h : Cx f a w l1 l2) (hv : valW f a w = q) (hq : q < 16) (hu : (f q).u = true) (hl : Tr f (f q).b l) : Cx f a (some (q, true)) (l1 ++ (l ++ [q])) l2
theorem setF_id {f : Nat → Nd} {a : Int} {w : Way} : setF f w (valW f a w) = f := by
  match w with
  | none => rfl
  | some (q, false) =>
    funext i
    show upd f q { f q with b := (f q).b } i = f i
    by_cases e : i = q
    · subst e; rw [upd_at]
    · rw [upd_ne _ _ e]
  | some (q, true) =>
    funext i
    show upd f q { f q with c := (f q).c } i = f i
    by_cases e : i = q
    · subst e; rw [upd_at]
    · rw [upd_ne _ _ e]
theorem setA_id {f : Nat → Nd} {a : Int} {w : Way} : setA a w (valW f a w) = a := by
  match w with
  | none => rfl
  | some (q, _) => rfl
theorem setF_else {f : Nat → Nd} {w : Way} {x : Int} {i : Nat} (h : ∀ q s, w = some (q, s) → i ≠ q) : setF f w x i = f i := by
  match w, h with
  | none, _ => rfl
  | some (q, false), h => exact upd_ne _ _ (h q false rfl)
  | some (q, true), h => exact upd_ne _ _ (h q true rfl)
theorem Cx.own {f : Nat → Nd} {a : Int} {w : Way} {l1 l2 : List Nat} (h : Cx f a w l1 l2) : ∀ q s, w = some (q, s) → q ∈ l1 ++ l2 := by
  intro q s e
  cases h with
  | root => cases e
  | left => injection e with e; injection e with e1 _; subst e1; simp
  | right => injection e with e; injection e with e1 _; subst e1; simp
theorem Cx.okW {f : Nat → Nd} {a : Int} {w : Way} {l1 l2 : List Nat} (h : Cx f a w l1 l2) : okW w := by
  cases h with
  | root => trivial
  | left _ _ hq => exact hq
  | right _ _ hq => exact hq
/-- Another part hung at a place. -/
theorem Cx.plug {f : Nat → Nd} {a : Int} {w : Way} {l1 l2 : List Nat} (h : Cx f a w l1 l2) : ∀ (g : Nat → Nd) (x : Int) (lw : List Nat), (l1 ++ l2).Nodup → (∀ i ∈ l1 ++ l2, g i = setF f w x i) → Tr g x lw → Tr g (setA a w x) (l1 ++ (lw ++ l2)) := by
  induction h with
  | root => intro g x lw _ _ ht; simpa [setA] using ht
  | @left w q r l1 l2 h hv hq hu hr ih =>
    intro g x lw hn hg ht
    have hgq : g q = { f q with b := x } := by
      rw [hg q (by simp)]
      exact upd_at ..
    have hn1 : q ∉ l1 := fun hm => (List.nodup_append.1 hn).2.2 q hm q (by simp) rfl
    have hn2 : q ∉ r ++ l2 := (List.nodup_cons.1 (List.nodup_append.1 hn).2.1).1
    have hge : ∀ i, i ≠ q → i ∈ l1 ++ q :: (r ++ l2) → g i = f i := fun i hi hm => by rw [hg i hm]; exact upd_ne _ _ hi
    have hr' : Tr g (f q).c r := hr.congr fun i hi => hge i (by rintro rfl; exact hn2 (by simp [hi])) (by simp [hi])
    have ht' : Tr g q (lw ++ q :: r) := .node hq (by rw [hgq]; exact hu) (by rw [hgq]; exact ht) (by rw [hgq]; exact hr')
    have hnd : (l1 ++ l2).Nodup := by
      obtain ⟨n1, n2, n3⟩ := List.nodup_append.1 hn
      refine List.nodup_append.2 ⟨n1, (List.nodup_append.1 (List.nodup_cons.1 n2).2).2.1, fun x hx y hy => n3 x hx y (by simp [hy])⟩
    have := ih g q (lw ++ q :: r) hnd (fun i hi => by
      have hi' : i ∈ l1 ++ q :: (r ++ l2) := by
        rcases List.mem_append.1 hi with h | h <;> simp [h]
      have hiq : i ≠ q := by
        rintro rfl
        rcases List.mem_append.1 hi with h | h
        · exact hn1 h
        · exact hn2 (by simp [h])
      rw [hge i hiq hi', ← hv, setF_id]) ht'
    rw [show setA a w (q : Int) = a by rw [← hv, setA_id]] at this
    show Tr g a _
    simpa [List.append_assoc] using this
  | @right w q l l1 l2 h hv hq hu hl ih =>
    intro g x lw hn hg ht
    have hgq : g q = { f q with c := x } := by
      rw [hg q (by simp)]
      exact upd_at ..
    have hn' : (l1 ++ (l ++ ([q] ++ l2))).Nodup := by simpa [List.append_assoc] using hn
    obtain ⟨n1, n2, n3⟩ := List.nodup_append.1 hn'
    obtain ⟨n4, n5, n6⟩ := List.nodup_append.1 n2
    have hn1 : q ∉ l1 := fun hm => n3 q hm q (by simp) rfl
    have hn3 : q ∉ l := fun hm => n6 q hm q (by simp) rfl
    have hn2 : q ∉ l2 := (List.nodup_cons.1 n5).1
    have hge : ∀ i, i ≠ q → i ∈ l1 ++ (l ++ [q]) ++ l2 → g i = f i := fun i hi hm => by rw [hg i hm]; exact upd_ne _ _ hi
    have hl' : Tr g (f q).b l := hl.congr fun i hi => hge i (by rintro rfl; exact hn3 hi) (by simp [hi])
    have ht' : Tr g q (l ++ q :: lw) := .node hq (by rw [hgq]; exact hu) (by rw [hgq]; exact hl') (by rw [hgq]; exact ht)
    have hnd : (l1 ++ l2).Nodup := List.nodup_append.2 ⟨n1, (List.nodup_cons.1 n5).2, fun x hx y hy => n3 x hx y (by simp [hy])⟩
    have := ih g q (l ++ q :: lw) hnd (fun i hi => by
      have hi' : i ∈ l1 ++ (l ++ [q]) ++ l2 := by
        rcases List.mem_append.1 hi with h | h <;> simp [h]
      have hiq : i ≠ q := by
        rintro rfl
        rcases List.mem_append.1 hi with h | h
        · exact hn1 h
        · exact hn2 h
      rw [hge i hiq hi', ← hv, setF_id]) ht'
    rw [show setA a w (q : Int) = a by rw [← hv, setA_id]] at this
    show Tr g a _
    simpa [List.append_assoc] using this
theorem Tr.congr3 {f g : Nat → Nd} {p : Int} {l : List Nat} (h : Tr f p l) (hg : ∀ q ∈ l, (g q).u = (f q).u ∧ (g q).b = (f q).b ∧ (g q).c = (f q).c) : Tr g p l := by
  induction h with
  | nil => exact .nil
  | @node q l r hq hu hl hr ih1 ih2 =>
    obtain ⟨e1, e2, e3⟩ := hg q (by simp)
    have h1 := ih1 fun x hx => hg x (by simp [hx])
    have h2 := ih2 fun x hx => hg x (by simp [hx])
    exact .node hq (by rw [e1]; exact hu) (by rw [e2]; exact h1) (by rw [e3]; exact h2)
theorem Cx.key {f : Nat → Nd} {a x : Int} {p : Nat} {w : Way} {l1 l2 : List Nat} (h : Cx f a w l1 l2) : Cx (upd f p { f p with a := x }) a w l1 l2 := by
  have hu : ∀ i, (upd f p { f p with a := x } i).u = (f i).u ∧ (upd f p { f p with a := x } i).b = (f i).b ∧ (upd f p { f p with a := x } i).c = (f i).c := fun i => by
    by_cases e : i = p
    · subst e; rw [upd_at]; exact ⟨rfl, rfl, rfl⟩
    · rw [upd_ne _ _ e]; exact ⟨rfl, rfl, rfl⟩
  induction h with
  | root => exact .root
  | @left w q r l1 l2 h hv hq hu' hr ih => exact .left ih (by rw [valW_key]; exact hv) hq (by rw [(hu q).1]; exact hu') (by rw [(hu q).2.2]; exact hr.congr3 fun i _ => hu i)
  | @right w q l l1 l2 h hv hq hu' hl ih => exact .right ih (by rw [valW_key]; exact hv) hq (by rw [(hu q).1]; exact hu') (by rw [(hu q).2.1]; exact hl.congr3 fun i _ => hu i)

/-! The walk to a key. -/
/-- What the walk from a place on comes to. -/
structure Wk (f : Nat → Nd) (a key : Int) (n : Nat) (l : List Nat) (r : Way × Nat × Bool) (l1 lw l2 : List Nat) : Prop where
  cx : Cx f a r.1 l1 l2
  tr : Tr f (valW f a r.1) lw
  eq : l1 ++ (lw ++ l2) = l
  lo : ∀ q ∈ l1, (f q).a < key
  hi : ∀ q ∈ l2, key < (f q).a
  fin : r.2.2 = true → valW f a r.1 = -1 ∨ ∃ q : Nat, valW f a r.1 = q ∧ (f q).a = key
  cnt : r.2.2 = false → r.2.1 = n
theorem twk_cx {f : Nat → Nd} {a key : Int} : ∀ (n : Nat) (w : Way) (l1 lw l2 : List Nat), Cx f a w l1 l2 → Tr f (valW f a w) lw → asc f (l1 ++ (lw ++ l2)) → (∀ q ∈ l1, (f q).a < key) → (∀ q ∈ l2, key < (f q).a) →
    ∃ k1 kw k2, Wk f a key n (l1 ++ (lw ++ l2)) (twk f a key n w) k1 kw k2
  | 0, w, l1, lw, l2, hc, ht, ha, h1, h2 => by
    by_cases hv : valW f a w = -1
    · rw [twk_end hv]; exact ⟨l1, lw, l2, hc, ht, rfl, h1, h2, fun _ => .inl hv, fun h => by cases h⟩
    · rw [twk_zero hv]; exact ⟨l1, lw, l2, hc, ht, rfl, h1, h2, (fun h => by cases h), fun _ => rfl⟩
  | n + 1, w, l1, lw, l2, hc, ht, ha, h1, h2 => by
    by_cases hv : valW f a w = -1
    · rw [twk_end hv]; exact ⟨l1, lw, l2, hc, ht, rfl, h1, h2, fun _ => .inl hv, fun h => by cases h⟩
    · rcases ht.inv with ⟨h, _⟩ | ⟨q, ll, lr, e1, q1, q2, t1, t2, rfl⟩
      · exact absurd h hv
      · have hsame : l1 ++ ((ll ++ q :: lr) ++ l2) = l1 ++ (ll ++ (q :: (lr ++ l2))) := by simp
        have hsame2 : l1 ++ ((ll ++ q :: lr) ++ l2) = (l1 ++ (ll ++ [q])) ++ (lr ++ l2) := by simp
        by_cases k1 : key < (f q).a
        · rw [twk_l e1 k1]
          have ha' := ha
          rw [hsame] at ha'
          obtain ⟨_, a2, _⟩ := List.pairwise_append.1 ha'
          obtain ⟨_, a4, _⟩ := List.pairwise_append.1 a2
          obtain ⟨a6, _⟩ := List.pairwise_cons.1 a4
          obtain ⟨m1, mw, m2, w1⟩ := twk_cx n (some (q, false)) l1 ll (q :: (lr ++ l2)) (.left hc e1 q1 q2 t2) t1 ha' h1 (fun x hx => by
            rcases List.mem_cons.1 hx with rfl | hx
            · exact k1
            · have := a6 x hx; omega)
          rw [hsame]
          exact ⟨m1, mw, m2, w1.cx, w1.tr, w1.eq, w1.lo, w1.hi, w1.fin, fun h => by have := w1.cnt h; simp only [this]⟩
        · by_cases k2 : key > (f q).a
          · rw [twk_r e1 k1 k2]
            have ha' := ha
            rw [hsame2] at ha'
            obtain ⟨a1, _, _⟩ := List.pairwise_append.1 ha'
            obtain ⟨_, b2, b3⟩ := List.pairwise_append.1 a1
            obtain ⟨_, _, b6⟩ := List.pairwise_append.1 b2
            obtain ⟨m1, mw, m2, w1⟩ := twk_cx n (some (q, true)) (l1 ++ (ll ++ [q])) lr l2 (.right hc e1 q1 q2 t1) t2 ha' (fun x hx => by
              rcases List.mem_append.1 hx with hx | hx
              · exact h1 x hx
              · rcases List.mem_append.1 hx with hx | hx
                · have := b6 x hx q (by simp); omega
                · have := List.mem_singleton.1 hx; subst this; omega) h2
            rw [hsame2]
            exact ⟨m1, mw, m2, w1.cx, w1.tr, w1.eq, w1.lo, w1.hi, w1.fin, fun h => by have := w1.cnt h; simp only [this]⟩
          · rw [twk_hit e1 k1 k2]
            exact ⟨l1, ll ++ q :: lr, l2, hc, ht, rfl, h1, h2, fun _ => .inr ⟨q, e1, by omega⟩, fun h => by cases h⟩
theorem Tree.walk {f : Nat → Nd} {a : Int} {l : List Nat} (h : Tree f a l) (key : Int) : ∃ k1 kw k2, Wk f a key 8 l (twk f a key 8 none) k1 kw k2 := by
  have := twk_cx (key := key) 8 none [] l [] .root h.tr (by simpa using h.asc) (by simp) (by simp)
  simpa using this
/-- Whether the walk finds the key: it does if it is there and not too far. -/
theorem Wk.has {f : Nat → Nd} {a key : Int} {l l1 lw l2 : List Nat} {r : Way × Nat × Bool} (h : Wk f a key 8 l r l1 lw l2) (hok : r.2.2 = true) : valW f a r.1 ≠ -1 ↔ key ∈ kl f l := by
  have hm : ∀ x, x ∈ l ↔ x ∈ l1 ∨ x ∈ lw ∨ x ∈ l2 := fun x => by rw [← h.eq]; simp
  constructor
  · intro hv
    rcases h.fin hok with h1 | ⟨q, h1, h2⟩
    · exact absurd h1 hv
    · have ht := h.tr
      rw [h1] at ht
      rcases ht.inv with ⟨h3, _⟩ | ⟨q', a1, a2, h3, _, _, _, _, h4⟩
      · omega
      · have : q' = q := by omega
        subst this
        refine List.mem_map.2 ⟨q', (hm q').2 (.inr (.inl (by rw [h4]; simp))), h2⟩
  · intro hk hv
    obtain ⟨q, hq, e⟩ := List.mem_map.1 hk
    have ht := h.tr
    rw [hv] at ht
    have hlw : lw = [] := by
      rcases ht.inv with ⟨_, h3⟩ | ⟨q', _, _, h3, _⟩
      · exact h3
      · omega
    subst hlw
    rcases (hm q).1 hq with h1 | h1 | h1
    · have := h.lo q h1; omega
    · cases h1
    · have := h.hi q h1; omega
theorem kl_append (f : Nat → Nd) (l1 l2 : List Nat) : kl f (l1 ++ l2) = kl f l1 ++ kl f l2 := by simp [kl]
theorem kl_congr {f g : Nat → Nd} {l : List Nat} (h : ∀ q ∈ l, (g q).a = (f q).a) : kl g l = kl f l := List.map_congr_left h
theorem asc_kl {f : Nat → Nd} {l : List Nat} : Go.Proofs.Ytdnfcomgdgdifaa.asc f l ↔ (kl f l).Pairwise (· < ·) := by
  unfold kl
  rw [List.pairwise_map]
  rfl
theorem tnOk_au {x y : Nd} (h : tnOk x = true) (hu : x.u = true) (e : y.a = x.a ∧ y.u = x.u) : tnOk y = true := by
  unfold tnOk at h ⊢
  rw [e.2, e.1]
  rw [if_pos hu] at h ⊢
  exact h
theorem setF_au {f : Nat → Nd} {w : Way} {x : Int} {i : Nat} : (setF f w x i).a = (f i).a ∧ (setF f w x i).u = (f i).u := by
  match w with
  | none => exact ⟨rfl, rfl⟩
  | some (q, false) =>
    show (upd f q { f q with b := x } i).a = _ ∧ (upd f q { f q with b := x } i).u = _
    by_cases e : i = q
    · subst e; rw [upd_at]; exact ⟨rfl, rfl⟩
    · rw [upd_ne _ _ e]; exact ⟨rfl, rfl⟩
  | some (q, true) =>
    show (upd f q { f q with c := x } i).a = _ ∧ (upd f q { f q with c := x } i).u = _
    by_cases e : i = q
    · subst e; rw [upd_at]; exact ⟨rfl, rfl⟩
    · rw [upd_ne _ _ e]; exact ⟨rfl, rfl⟩
/-! Added. -/
theorem Tree.add {f : Nat → Nd} {a key : Int} {l : List Nat} (h : Tree f a l) (hv : isVal key = true) (h0 : (treeAdd f a key).2.2 = 0) : ∃ l1 l2, l = l1 ++ l2 ∧ key ∉ kl f l ∧
    Tree (treeAdd f a key).1 (treeAdd f a key).2.1 (l1 ++ frI f 16 0 :: l2) ∧ kl (treeAdd f a key).1 (l1 ++ frI f 16 0 :: l2) = kl f l1 ++ key :: kl f l2 := by
  obtain ⟨l1, lw, l2, hw⟩ := h.walk key
  unfold treeAdd at h0 ⊢
  rw [if_pos ⟨h.treeOk, hv⟩] at h0 ⊢
  generalize twk f a key 8 none = r at hw h0 ⊢
  obtain ⟨w, op, ok⟩ := r
  cases ok with
  | false => simp at h0
  | true =>
    simp only [if_true] at h0 ⊢
    by_cases hz : valW f a w = -1
    · rw [if_pos hz] at h0 ⊢
      by_cases hf : frI f 16 0 = 16
      · rw [if_pos hf] at h0; simp at h0
      · rw [if_neg hf]
        have hno : key ∉ kl f l := fun hk => absurd hz ((hw.has rfl).2 hk)
        have ht := hw.tr
        simp only [hz] at ht
        have hlw : lw = [] := by
          rcases ht.inv with ⟨_, h3⟩ | ⟨q', _, _, h3, _⟩
          · exact h3
          · omega
        subst hlw
        have heq : l1 ++ l2 = l := by simpa using hw.eq
        have hb := frI_bound f 16 0
        have hi : frI f 16 0 < 16 := by omega
        have hu : (f (frI f 16 0)).u = false := frI_free 16 0 (by omega)
        generalize frI f 16 0 = i at hi hu hf ⊢
        have hil : i ∉ l := fun hm => by rw [(h.tr.mem hm).2.1] at hu; cases hu
        have hi1 : i ∉ l1 := fun hm => hil (by rw [← heq]; simp [hm])
        have hi2 : i ∉ l2 := fun hm => hil (by rw [← heq]; simp [hm])
        have gi : upd (setF f w i) i ⟨true, key, -1, -1⟩ i = ⟨true, key, -1, -1⟩ := upd_at ..
        have ge : ∀ x, x ≠ i → upd (setF f w i) i ⟨true, key, -1, -1⟩ x = setF f w i x := fun x hx => upd_ne _ _ hx
        have ga : ∀ x, x ≠ i → (upd (setF f w i) i ⟨true, key, -1, -1⟩ x).a = (f x).a ∧ (upd (setF f w i) i ⟨true, key, -1, -1⟩ x).u = (f x).u := fun x hx => by rw [ge x hx]; exact setF_au
        have hnd := h.nodup
        have ht' : Tr (upd (setF f w i) i ⟨true, key, -1, -1⟩) i [i] := by
          have := Tr.node (f := upd (setF f w i) i ⟨true, key, -1, -1⟩) (q := i) (l := []) (r := []) hi (by rw [gi]) (by rw [gi]; exact .nil) (by rw [gi]; exact .nil)
          simpa using this
        have hp := hw.cx.plug (upd (setF f w i) i ⟨true, key, -1, -1⟩) i [i] (by rw [heq]; exact hnd) (fun x hx => ge x (by rintro rfl; exact hil (by rw [← heq]; exact hx))) ht'
        have gz : ∀ x, x ≠ i → x ∉ l → upd (setF f w i) i ⟨true, key, -1, -1⟩ x = f x := fun x hx hxl => by
          rw [ge x hx, setF_else]
          intro q s e hxq
          have := hw.cx.own q s e
          rw [heq] at this
          exact hxl (hxq ▸ this)
        have hkl : kl (upd (setF f w i) i ⟨true, key, -1, -1⟩) (l1 ++ i :: l2) = kl f l1 ++ key :: kl f l2 := by
          rw [kl_append, kl_congr (f := f) (l := l1) fun q hq => (ga q (by rintro rfl; exact hi1 hq)).1]
          congr 1
          show (upd (setF f w i) i ⟨true, key, -1, -1⟩ i).a :: kl _ l2 = _
          rw [gi, kl_congr (f := f) (l := l2) fun q hq => (ga q (by rintro rfl; exact hi2 hq)).1]
        generalize upd (setF f w i) i ⟨true, key, -1, -1⟩ = g at gi ge ga hp gz hkl ⊢
        refine ⟨l1, l2, heq.symm, hno, ⟨hp, ?_, fun j hj => ?_, fun j hj => ?_⟩, hkl⟩
        · rw [asc_kl]
          simp only [List.cons_append, List.nil_append]
          rw [hkl]
          have ha := h.asc
          rw [asc_kl, ← heq, kl_append] at ha
          obtain ⟨p1, p2, p3⟩ := List.pairwise_append.1 ha
          refine List.pairwise_append.2 ⟨p1, List.pairwise_cons.2 ⟨fun y hy => ?_, p2⟩, fun x hx y hy => ?_⟩
          · obtain ⟨q, hq, rfl⟩ := List.mem_map.1 hy
            exact hw.hi q hq
          · rcases List.mem_cons.1 hy with rfl | hy
            · obtain ⟨q, hq, rfl⟩ := List.mem_map.1 hx
              exact hw.lo q hq
            · exact p3 x hx y hy
        · show (g j).u = _
          by_cases e : j = i
          · subst e; rw [gi]; simp
          · rw [(ga j e).2, h.used j hj, ← heq]; simp [e]
        · show tnOk (g j) = true
          by_cases e : j = i
          · subst e; rw [gi]; simp [tnOk, hv]
          · cases huj : (f j).u with
            | true => exact tnOk_au (h.ok j hj) huj (ga j e)
            | false =>
              rw [gz j e fun hm => by rw [(h.tr.mem hm).2.1] at huj; cases huj]
              exact h.ok j hj
    · rw [if_neg hz] at h0; simp at h0
end Go.Proofs.Ytdnfcomgdgdifaa
