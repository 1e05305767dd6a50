/-
  Trees, in plain terms: dropped; how high; built.
-/
import Derived.Test.YtdnfcomgdgdifaaPt
import Derived.Test.YtdnfcomgdgdifaaTB
set_option linter.unusedVariables false
set_option linter.unusedSimpArgs false
namespace Go.Proofs.Ytdnfcomgdgdifaa

theorem lm_cx {f : Nat → Nd} {a : Int} : ∀ (n : Nat) (w : Way) (s : Nat) (l l1 l2 : List Nat), Cx f a w l1 l2 → valW f a w = s → Tr f s l → l.length ≤ n →
    ∃ rr k2, Cx f a (lmW f n w s).1 l1 k2 ∧ Tr f (f (lmW f n w s).2.1).c rr ∧ l ++ l2 = (lmW f n w s).2.1 :: (rr ++ k2)
  | n, w, s, l, l1, l2, hc, hv, ht, hn => by
    rcases ht.inv with ⟨h, _⟩ | ⟨q, ll, lr, h1, h2, h3, h4, h5, h6⟩
    · omega
    · obtain rfl : s = q := by omega
      by_cases hb : (f s).b = -1
      · rw [lmW_end hb]
        rw [hb] at h4
        have hll : ll = [] := by
          rcases h4.inv with ⟨_, h⟩ | ⟨q', _, _, h, _⟩
          · exact h
          · omega
        subst hll
        exact ⟨lr, l2, hc, h5, by rw [h6]; rfl⟩
      · have hb2 := tr_val h4
        obtain ⟨t, ht'⟩ : ∃ t : Nat, (f s).b = t := ⟨(f s).b.toNat, by omega⟩
        have hlen : l.length = ll.length + (1 + lr.length) := by rw [h6]; simp; omega
        obtain ⟨n, rfl⟩ : ∃ n', n = n' + 1 := ⟨n - 1, by omega⟩
        rw [lmW_go ht']
        have h4' := h4
        rw [ht'] at h4'
        obtain ⟨rr, k2, i1, i2, i3⟩ := lm_cx n (some (s, false)) t ll l1 (s :: (lr ++ l2)) (.left hc hv h2 h3 h5) ht' h4' (by omega)
        exact ⟨rr, k2, i1, i2, by rw [← i3, h6]; simp⟩
theorem Tree.mk' {f g : Nat → Nd} {a' : Int} {l' : List Nat} (h1 : Tr g a' l') (h2 : (kl g l').Pairwise (· < ·)) (h3 : ∀ j, j < 16 → (g j).u = l'.contains j) (h4 : ∀ j ∈ l', isVal (g j).a = true) (h5 : ∀ j, j < 16 → j ∉ l' → tnOk (g j) = true) : Tree g a' l' :=
  ⟨h1, asc_kl.2 h2, h3, fun j hj => by
    by_cases hm : j ∈ l'
    · unfold tnOk
      rw [if_pos (h1.mem hm).2.1]
      exact h4 j hm
    · exact h5 j hj hm⟩
theorem mxC_cases {x : Nd} (hb : -1 ≤ x.b) (hc : -1 ≤ x.c) (h : ¬ (x.b ≠ -1 ∧ x.c ≠ -1)) : (x.b = -1 ∧ mxC x = x.c) ∨ (x.c = -1 ∧ mxC x = x.b) := by
  unfold mxC
  by_cases h1 : x.b = -1
  · left; exact ⟨h1, by rw [if_pos (by omega)]⟩
  · right
    have h2 : x.c = -1 := by omega
    exact ⟨h2, by rw [if_neg (by omega)]⟩
theorem Tr.none {f : Nat → Nd} {l : List Nat} (h : Tr f (-1) l) : l = [] := by
  rcases h.inv with ⟨_, h⟩ | ⟨q, _, _, h, _⟩
  · exact h
  · omega
theorem Tree.drop {f : Nat → Nd} {a key : Int} {l : List Nat} (h : Tree f a l) (hv : isVal key = true) (h0 : (treeDrop f a key).2.2 = 0) :
    ∃ l' k1 k2, Tree (treeDrop f a key).1 (treeDrop f a key).2.1 l' ∧ kl f l = k1 ++ key :: k2 ∧ kl (treeDrop f a key).1 l' = k1 ++ k2 := by
  obtain ⟨l1, lw, l2, hw⟩ := h.walk key
  unfold treeDrop at h0 ⊢
  rw [if_pos ⟨h.treeOk, hv⟩] at h0 ⊢
  generalize twk f a key 8 none = r at hw h0 ⊢
  obtain ⟨w, op, ok⟩ := r
  cases ok with
  | false => simp at h0
  | true =>
    simp only [if_true] at h0 ⊢
    by_cases hz : valW f a w = -1
    · rw [if_pos hz] at h0; simp at h0
    · rw [if_neg hz] at h0 ⊢
      rcases hw.fin rfl with hz' | ⟨q, hq, hk⟩
      · exact absurd hz' hz
      · simp only at hq
        rw [hq, Int.toNat_natCast] at h0 ⊢
        have ht := hw.tr
        simp only [hq] at ht
        rcases ht.inv with ⟨e, _⟩ | ⟨q', ll, lr, e, q1, q2, t1, t2, rfl⟩
        · omega
        · obtain rfl : q = q' := by omega
          have heq : l1 ++ ((ll ++ q :: lr) ++ l2) = l := hw.eq
          have hnd := h.nodup
          have hasc := h.asc
          rw [asc_kl] at hasc
          have hmem : ∀ x, x ∈ l ↔ x ∈ l1 ∨ x ∈ ll ∨ x = q ∨ x ∈ lr ∨ x ∈ l2 := fun x => by rw [← heq]; simp [or_assoc]
          have hklf : kl f l = (kl f l1 ++ kl f ll) ++ key :: (kl f lr ++ kl f l2) := by
            rw [← heq]; simp [kl, hk]
          have hnd' := hnd
          rw [← heq] at hnd'
          obtain ⟨n1, n2, n3⟩ := List.nodup_append.1 hnd'
          obtain ⟨n4, n5, n6⟩ := List.nodup_append.1 n2
          obtain ⟨n7, n8, n9⟩ := List.nodup_append.1 n4
          have n10 := List.nodup_cons.1 n8
          have hq1 : q ∉ l1 := fun hm => n3 q hm q (by simp) rfl
          have hql : q ∉ ll := fun hm => n9 q hm q (by simp) rfl
          have hqr : q ∉ lr := n10.1
          have hq2 : q ∉ l2 := fun hm => n6 q (by simp) q hm rfl
          have b1 := tr_val t1
          have b2 := tr_val t2
          have hqm : q ∈ l := (hmem q).2 (.inr (.inr (.inl rfl)))
          by_cases hch : (f q).b ≠ -1 ∧ (f q).c ≠ -1
          · rw [if_pos hch] at h0 ⊢
            have hs0' : ∃ s0 : Nat, (f q).c = s0 := ⟨(f q).c.toNat, by omega⟩
            obtain ⟨s0, hs0⟩ := hs0'
            rw [show (f q).c.toNat = s0 by omega] at h0 ⊢
            have t2' := t2
            rw [hs0] at t2'
            have hl17 : lr.length ≤ 17 := by
              have := h.len.2
              rw [← heq] at this
              simp only [List.length_append, List.length_cons] at this
              omega
            have hcr : Cx f a (some (q, true)) (l1 ++ (ll ++ [q])) l2 := .right hw.cx hq q1 q2 t1
            obtain ⟨rr, k2, c1, c2, c3⟩ := lm_cx 17 (some (q, true)) s0 lr _ _ hcr hs0 t2' hl17
            have hlm := lm_spec (a := a) 17 (some (q, true)) s0 lr t2' hl17 q1 hs0
            generalize lmW f 17 (some (q, true)) s0 = z at h0 c1 c2 c3 hlm ⊢
            obtain ⟨w', s, cn⟩ := z
            simp only at h0 c1 c2 c3 ⊢
            have hsr : s ∈ lr := hlm.mem
            by_cases hm : 8 < op + 1 + cn
            · rw [if_pos hm] at h0; simp at h0
            · rw [if_neg hm]
              simp only
              have hsq : s ≠ q := by rintro rfl; exact hqr hsr
              have hcx := c1.key (x := (f s).a) (p := q)
              have hsa : setA a w' (f s).c = a := by
                rcases hlm.way with e | ⟨e, _⟩
                · have e : w' = some (q, true) := e
                  subst e; rfl
                · have e : w' = some (ownW w', false) := e
                  rw [e]; rfl
              -- the whole list
              have hwhole : (l1 ++ (ll ++ [q])) ++ (s :: (rr ++ k2)) = l := by
                rw [← c3, ← heq]; simp
              have hndw := hnd
              rw [← hwhole] at hndw
              obtain ⟨m1, m2, m3⟩ := List.nodup_append.1 hndw
              obtain ⟨m4, m5⟩ := List.nodup_cons.1 m2
              obtain ⟨m6, m7, m8⟩ := List.nodup_append.1 m5
              have hsL : s ∉ l1 ++ (ll ++ [q]) := fun hm => m3 s hm s (by simp) rfl
              have hf1 : ∀ i, i ≠ q → upd f q { f q with a := (f s).a } i = f i := fun i hi => upd_ne _ _ hi
              have hgi : ∀ i, i ≠ s → upd (setF (upd f q { f q with a := (f s).a }) w' (f s).c) s nd0 i = setF (upd f q { f q with a := (f s).a }) w' (f s).c i := fun i hi => upd_ne _ _ hi
              have hgs : upd (setF (upd f q { f q with a := (f s).a }) w' (f s).c) s nd0 s = nd0 := upd_at ..
              have hgau : ∀ i, i ≠ s → (upd (setF (upd f q { f q with a := (f s).a }) w' (f s).c) s nd0 i).a = (if i = q then (f s).a else (f i).a) ∧ (upd (setF (upd f q { f q with a := (f s).a }) w' (f s).c) s nd0 i).u = (f i).u := fun i hi => by
                rw [hgi i hi, setF_au.1, setF_au.2]
                by_cases e : i = q
                · subst e; rw [upd_at, if_pos rfl]; exact ⟨rfl, rfl⟩
                · rw [upd_ne _ _ e, if_neg e]; exact ⟨rfl, rfl⟩
              have hgf : ∀ i, i ≠ s → i ≠ q → i ∉ (l1 ++ (ll ++ [q])) ++ k2 → upd (setF (upd f q { f q with a := (f s).a }) w' (f s).c) s nd0 i = f i := fun i h1 h2 h3 => by
                rw [hgi i h1, setF_else, hf1 i h2]
                intro x y e hxy
                have := c1.own x y e
                rw [hxy] at h3
                exact h3 this
              have hplug := hcx.plug (upd (setF (upd f q { f q with a := (f s).a }) w' (f s).c) s nd0) (f s).c rr (List.nodup_append.2 ⟨m1, m7, fun x hx y hy => m3 x hx y (by simp [hy])⟩) (fun i hi => hgi i (by
                rintro rfl
                rcases List.mem_append.1 hi with hi | hi
                · exact hsL hi
                · exact m4 (by simp [hi]))) (c2.congr fun i hi => hgf i (by rintro rfl; exact m4 (by simp [hi])) (by
                  rintro rfl
                  exact m3 i (by simp) i (by simp [hi]) rfl) (fun hm => by
                  rcases List.mem_append.1 hm with hm | hm
                  · exact m3 i hm i (by simp [hi]) rfl
                  · exact m8 i hi i hm rfl))
              rw [hsa] at hplug
              generalize upd (setF (upd f q { f q with a := (f s).a }) w' (f s).c) s nd0 = g at hgi hgs hgau hgf hplug ⊢
              have hkg : kl g ((l1 ++ (ll ++ [q])) ++ (rr ++ k2)) = (kl f l1 ++ kl f ll) ++ (f s).a :: (kl f rr ++ kl f k2) := by
                have e : ∀ l0 : List Nat, (∀ i ∈ l0, i ≠ s ∧ i ≠ q) → kl g l0 = kl f l0 := fun l0 h => kl_congr fun i hi => by
                  rw [(hgau i (h i hi).1).1, if_neg (h i hi).2]
                have e1 := e l1 fun i hi => ⟨by rintro rfl; exact hsL (by simp [hi]), by rintro rfl; exact hq1 hi⟩
                have e2 := e ll fun i hi => ⟨by rintro rfl; exact hsL (by simp [hi]), by rintro rfl; exact hql hi⟩
                have e3 := e rr fun i hi => ⟨by rintro rfl; exact m4 (by simp [hi]), by rintro rfl; exact m3 i (by simp) i (by simp [hi]) rfl⟩
                have e4 := e k2 fun i hi => ⟨by rintro rfl; exact m4 (by simp [hi]), by rintro rfl; exact m3 i (by simp) i (by simp [hi]) rfl⟩
                have e5 : kl g [q] = [(f s).a] := by
                  show [(g q).a] = _
                  rw [(hgau q (Ne.symm hsq)).1, if_pos rfl]
                rw [kl_append, kl_append, kl_append, kl_append, e1, e2, e3, e4, e5]
                simp
              have hkf : kl f lr ++ kl f l2 = (f s).a :: (kl f rr ++ kl f k2) := by
                rw [← kl_append, c3]
                simp [kl]
              rw [hklf, hkf] at hasc
              refine ⟨(l1 ++ (ll ++ [q])) ++ (rr ++ k2), kl f l1 ++ kl f ll, (f s).a :: (kl f rr ++ kl f k2), Tree.mk' (f := f) ?_ ?_ ?_ ?_ ?_, by rw [hklf, hkf], hkg⟩
              · exact hplug
              · rw [hkg]
                refine List.Pairwise.sublist ?_ hasc
                exact List.Sublist.append (List.Sublist.refl _) (List.sublist_cons_self _ _)
              · intro j hj
                by_cases e : j = s
                · subst e
                  rw [hgs]
                  have : j ∉ (l1 ++ (ll ++ [q])) ++ (rr ++ k2) := fun hm => by
                    rcases List.mem_append.1 hm with hm | hm
                    · exact hsL hm
                    · exact m4 hm
                  show false = _
                  symm
                  simpa using this
                · rw [(hgau j e).2, h.used j hj, ← hwhole]
                  simp [e]
              · intro j hj
                have hjs : j ≠ s := by
                  rintro rfl
                  rcases List.mem_append.1 hj with hm | hm
                  · exact hsL hm
                  · exact m4 hm
                have hjl : j ∈ l := by
                  rw [← hwhole]
                  rcases List.mem_append.1 hj with hm | hm
                  · exact List.mem_append_left _ hm
                  · exact List.mem_append_right _ (List.mem_cons_of_mem _ hm)
                rw [(hgau j hjs).1]
                split
                · exact (h.mem ((hmem s).2 (.inr (.inr (.inr (.inl hsr)))))).2.2
                · exact (h.mem hjl).2.2
              · intro j hj hm
                by_cases e : j = s
                · subst e; rw [hgs]; rfl
                · have hjl : j ∉ l := by
                    rw [← hwhole]
                    intro hm2
                    rcases List.mem_append.1 hm2 with hm2 | hm2
                    · exact hm (List.mem_append_left _ hm2)
                    · rcases List.mem_cons.1 hm2 with hm2 | hm2
                      · exact e hm2
                      · exact hm (List.mem_append_right _ hm2)
                  rw [hgf j e (by rintro rfl; exact hjl hqm) (fun hm2 => hm (by
                    rcases List.mem_append.1 hm2 with hm2 | hm2
                    · exact List.mem_append_left _ hm2
                    · exact List.mem_append_right _ (List.mem_append_right _ hm2)))]
                  exact h.ok j hj
          · rw [if_neg hch] at h0 ⊢
            simp only
            have hx : Tr f (mxC (f q)) (ll ++ lr) := by
              rcases mxC_cases b1.1 b2.1 hch with ⟨e1, e2⟩ | ⟨e1, e2⟩
              · rw [e1] at t1
                rw [e2, t1.none]
                exact t2
              · rw [e1] at t2
                rw [e2, t2.none, List.append_nil]
                exact t1
            generalize mxC (f q) = x at hx ⊢
            have hgi : ∀ i, i ≠ q → upd (setF f w x) q nd0 i = setF f w x i := fun i hi => upd_ne _ _ hi
            have hgq : upd (setF f w x) q nd0 q = nd0 := upd_at ..
            have hgau : ∀ i, i ≠ q → (upd (setF f w x) q nd0 i).a = (f i).a ∧ (upd (setF f w x) q nd0 i).u = (f i).u := fun i hi => by rw [hgi i hi]; exact setF_au
            have hgf : ∀ i, i ≠ q → i ∉ l1 ++ l2 → upd (setF f w x) q nd0 i = f i := fun i h1 h3 => by
              rw [hgi i h1, setF_else]
              intro y z e hxy
              have := hw.cx.own y z e
              rw [hxy] at h3
              exact h3 this
            have hplug := hw.cx.plug (upd (setF f w x) q nd0) x (ll ++ lr) (List.nodup_append.2 ⟨n1, n5, fun x hx y hy => n3 x hx y (by simp [hy])⟩) (fun i hi => hgi i (by
              rintro rfl
              rcases List.mem_append.1 hi with hi | hi
              · exact hq1 hi
              · exact hq2 hi)) (hx.congr fun i hi => hgf i (by
                rintro rfl
                rcases List.mem_append.1 hi with hi | hi
                · exact hql hi
                · exact hqr hi) (fun hm => by
                have hi' : i ∈ ll ++ q :: lr := by
                  rcases List.mem_append.1 hi with hi | hi <;> simp [hi]
                rcases List.mem_append.1 hm with hm | hm
                · exact n3 i hm i (by rcases List.mem_append.1 hi with hi | hi <;> simp [hi]) rfl
                · exact n6 i hi' i hm rfl))
            generalize upd (setF f w x) q nd0 = g at hgi hgq hgau hgf hplug ⊢
            have hkg : kl g (l1 ++ ((ll ++ lr) ++ l2)) = (kl f l1 ++ kl f ll) ++ (kl f lr ++ kl f l2) := by
              have e : ∀ l0 : List Nat, q ∉ l0 → kl g l0 = kl f l0 := fun l0 h => kl_congr fun i hi => (hgau i (by rintro rfl; exact h hi)).1
              rw [kl_append, kl_append, kl_append, e l1 hq1, e ll hql, e lr hqr, e l2 hq2]
              simp
            rw [hklf] at hasc
            have hqn : q ∉ l1 ++ ((ll ++ lr) ++ l2) := by simp [hq1, hql, hqr, hq2]
            have hml : ∀ j, j ≠ q → (j ∈ l ↔ j ∈ l1 ++ ((ll ++ lr) ++ l2)) := fun j e => by rw [hmem j]; simp [e, or_assoc]
            refine ⟨l1 ++ ((ll ++ lr) ++ l2), kl f l1 ++ kl f ll, kl f lr ++ kl f l2, Tree.mk' (f := f) hplug ?_ ?_ ?_ ?_, hklf, hkg⟩
            · rw [hkg]
              refine List.Pairwise.sublist ?_ hasc
              exact List.Sublist.append (List.Sublist.refl _) (List.sublist_cons_self _ _)
            · intro j hj
              by_cases e : j = q
              · subst e
                rw [hgq]
                show false = _
                symm
                simpa using hqn
              · rw [(hgau j e).2, h.used j hj, Bool.eq_iff_iff]
                simpa using hml j e
            · intro j hj
              have hjq : j ≠ q := by rintro rfl; exact hqn hj
              rw [(hgau j hjq).1]
              exact (h.mem ((hml j hjq).2 hj)).2.2
            · intro j hj hm
              by_cases e : j = q
              · subst e; rw [hgq]; rfl
              · rw [hgf j e fun hm2 => hm (by rcases List.mem_append.1 hm2 with hm2 | hm2 <;> simp [hm2])]
                exact h.ok j hj
/-! What the functions do. -/
theorem treeDrop_ok {f : Nat → Nd} {a key : Int} (h : treeOk f a = true) : treeOk (treeDrop f a key).1 (treeDrop f a key).2.1 = true ∧
    ((treeDrop f a key).2.2 ≠ 0 → (treeDrop f a key).1 = f ∧ (treeDrop f a key).2.1 = a) ∧
    ((treeDrop f a key).2.2 = 0 → key ∉ treeKeys (treeDrop f a key).1 (treeDrop f a key).2.1 ∧ (treeKeys (treeDrop f a key).1 (treeDrop f a key).2.1).length + 1 = (treeKeys f a).length) := by
  have hsame : (treeDrop f a key).2.2 ≠ 0 → (treeDrop f a key).1 = f ∧ (treeDrop f a key).2.1 = a := by
    unfold treeDrop
    split
    · split
      · split
        · exact fun _ => ⟨rfl, rfl⟩
        · split
          · split
            · exact fun _ => ⟨rfl, rfl⟩
            · exact fun h => absurd rfl h
          · exact fun h => absurd rfl h
      · exact fun _ => ⟨rfl, rfl⟩
    · exact fun _ => ⟨rfl, rfl⟩
  by_cases h0 : (treeDrop f a key).2.2 = 0
  · obtain ⟨l, hl⟩ := Tree.of h
    have hv : isVal key = true := by
      cases hv : isVal key with
      | true => rfl
      | false => unfold treeDrop at h0; rw [if_neg (by simp [hv])] at h0; simp at h0
    obtain ⟨l', k1, k2, d1, d2, d3⟩ := hl.drop hv h0
    refine ⟨d1.treeOk, hsame, fun _ => ?_⟩
    rw [d1.keys, hl.keys, d2, d3]
    have ha := hl.asc
    rw [asc_kl, d2] at ha
    obtain ⟨p1, p2, p3⟩ := List.pairwise_append.1 ha
    refine ⟨fun hm => ?_, by simp; omega⟩
    rcases List.mem_append.1 hm with hm | hm
    · have := p3 key hm key (by simp); omega
    · have := (List.pairwise_cons.1 p2).1 key hm; omega
  · obtain ⟨e1, e2⟩ := hsame h0
    exact ⟨by rw [e1, e2]; exact h, hsame, fun h => absurd h h0⟩
theorem treeAdd_ok {f : Nat → Nd} {a key : Int} (h : treeOk f a = true) : treeOk (treeAdd f a key).1 (treeAdd f a key).2.1 = true ∧
    (isVal key = true → ((treeAdd f a key).2.2 = 4 ↔ (treeAdd f a key).2.2 ≠ 2 ∧ key ∈ treeKeys f a)) ∧
    ((treeAdd f a key).2.2 = 0 → (treeFind (treeAdd f a key).1 (treeAdd f a key).2.1 key).2 = 4 ∨ ((treeFind (treeAdd f a key).1 (treeAdd f a key).2.1 key).2 = 2 ∧ (treeFind (treeAdd f a key).1 (treeAdd f a key).2.1 key).1 = 8)) := by
  obtain ⟨l, hl⟩ := Tree.of h
  have hsame : (treeAdd f a key).2.2 ≠ 0 → (treeAdd f a key).1 = f ∧ (treeAdd f a key).2.1 = a := by
    unfold treeAdd
    split
    · split
      · split
        · split
          · exact fun _ => ⟨rfl, rfl⟩
          · exact fun h => absurd rfl h
        · exact fun _ => ⟨rfl, rfl⟩
      · exact fun _ => ⟨rfl, rfl⟩
    · exact fun _ => ⟨rfl, rfl⟩
  have hhas : isVal key = true → ((treeAdd f a key).2.2 = 4 ↔ (treeAdd f a key).2.2 ≠ 2 ∧ key ∈ treeKeys f a) := by
    intro hv
    obtain ⟨l1, lw, l2, hw⟩ := hl.walk key
    have hh := hw.has
    rw [hl.keys]
    unfold treeAdd
    rw [if_pos ⟨h, hv⟩]
    generalize twk f a key 8 none = r at hh ⊢
    obtain ⟨w, op, ok⟩ := r
    cases ok with
    | false => simp
    | true =>
      simp only [if_true]
      have hh := hh rfl
      simp only at hh
      by_cases hz : valW f a w = -1
      · have : key ∉ kl f l := fun hm => (hh.2 hm) hz
        rw [if_pos hz]
        split <;> simp [this]
      · rw [if_neg hz]
        simp [hh.1 hz]
  by_cases h0 : (treeAdd f a key).2.2 = 0
  · have hv : isVal key = true := by
      cases hv : isVal key with
      | true => rfl
      | false => unfold treeAdd at h0; rw [if_neg (by simp [hv])] at h0; simp at h0
    obtain ⟨l1, l2, d1, d2, d3, d4⟩ := hl.add hv h0
    refine ⟨d3.treeOk, hhas, fun _ => ?_⟩
    obtain ⟨k1, kw, k2, hw⟩ := d3.walk key
    have hh := hw.has
    have hcnt := hw.cnt
    have hkm : key ∈ kl (treeAdd f a key).1 (l1 ++ frI f 16 0 :: l2) := by rw [d4]; simp
    unfold treeFind
    rw [if_pos ⟨d3.treeOk, hv⟩]
    cases hok : (twk (treeAdd f a key).1 (treeAdd f a key).2.1 key 8 none).2.2 with
    | true =>
      have := (hh hok).2 hkm
      simp only [if_true, if_neg this]
      simp
    | false =>
      have := hcnt hok
      simp only [Bool.false_eq_true, if_false, this]
      simp
  · obtain ⟨e1, e2⟩ := hsame h0
    exact ⟨by rw [e1, e2]; exact h, hhas, fun h => absurd h h0⟩
end Go.Proofs.Ytdnfcomgdgdifaa
