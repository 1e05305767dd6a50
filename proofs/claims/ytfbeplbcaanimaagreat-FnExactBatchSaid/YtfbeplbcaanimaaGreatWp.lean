/-
 Batches: the law of Batch.
-/
import Derived.Test.YtfbeplbcaanimaaGreatWo
set_option linter.unusedVariables false
set_option linter.unusedSimpArgs false
set_option maxHeartbeats 8000000
set_option maxRecDepth 100000
namespace Go.Proofs.YtfbeplbcaanimaaGreat
variable {L : Nat}
theorem den_FnExactBatch (hL : 4000000 ≤ L) (k : Nat) (m : List Blk) (s : Spc) (v dv : C) (xss : List (List Int)) (ds : List Dd) (hv : SS m v xss) (hb : xss.length ≤ 9223372036854775807) (hbs : ∀ xs ∈ xss, xs.length ≤ 9223372036854775807) (hd : DS m dv ds) (hdl : ds.length ≤ 9223372036854775807) :
  den T libX L (k + 25) 4 [.agg (spC s v), .c dv] m = some ⟨vb true, m, 0, 0⟩ := by
 rw [den_eq T_4]
 obtain ⟨m0, hm0⟩ : ∃ m0, m0 = m ++ [⟨spC s v, 37, 0, true⟩] := ⟨_, rfl⟩
 have hsz := den_szSpace (X := libX) (L := L) (by omega) (k + 21) (m ++ [⟨spC s v, 37, 0, true⟩]) s v xss 1048576 hv.grow hb hbs (by omega)
 by_cases h0 : szSS xss 1048576 < 0
 ·simp (maxSteps := 1000000) -implicitDefEqProofs (disch := first | omega | (simp [get_app, get_app0]; done) | rfl | (simp only [List.length_cons, List.length_append, List.length_take, List.length_drop, List.length_nil]; omega)) [-getElem?_pos, -C.refs, cr_sl, cr_ptr, cr_nils, cr_int, cr_bool, cr_ci, c_laws_FnExactBatch, sp_len, sp_refs, sp_take, hsz, h0, take_end]
 ·obtain ⟨b1, b2, b3⟩ := sz_ok (xss := xss) (left := 1048576) (by omega) (by omega) (by omega)
  have bt := sz_tot (xss := xss) (left := 1048576) (by omega) (by omega)
  have hsd := den_szDeedS (X := libX) (L := L) (k + 23) (m ++ [⟨spC s v, 37, 0, true⟩]) dv ds (szSS xss 1048576) hd.grow hdl (by omega)
  by_cases h1 : szSS xss 1048576 - (ds.length : Int) < 0
  ·rw [if_pos h1] at hsd
   simp (maxSteps := 1000000) -implicitDefEqProofs (disch := first | omega | (simp [get_app, get_app0]; done) | rfl | (simp only [List.length_cons, List.length_append, List.length_take, List.length_drop, List.length_nil]; omega)) [-getElem?_pos, -C.refs, cr_sl, cr_ptr, cr_nils, cr_int, cr_bool, cr_ci, c_laws_FnExactBatch, sp_len, sp_refs, sp_take, hsz, h0, hsd, take_end]
  ·rw [if_neg h1] at hsd
   have bd : ds.length ≤ 1048576 := by omega
   obtain ⟨y1, y2, yt⟩ := batch_b (z := (s, xss)) (ds := ds) b1 b2 (by show tot xss ≤ _; omega)
   have yl := batch_t (z := (s, xss)) (ds := ds)
   have hx0 : Ext m m0 := ⟨_, hm0⟩
   have l0 : m0.length = m.length + 1 := by rw [hm0]; simp
   have p0 : live m0 m.length 141 = some ⟨spC s v, 37, 0, true⟩ := by rw [hm0]; exact lvAt0 (sp_len _ _).symm
   -- the reference
   obtain ⟨N1, c1, e1, d1, x1, s1, _⟩ := toSpO (X := libX) (L := L) (by omega) (k + 20) m0 s v xss (hx0.ss hv) b1 b2
   have x01 := hx0.trans x1
   have d2 := den_toDeedS (X := libX) (L := L) (k + 22) N1 dv ds (hd.ext x01) (by omega) bd
   obtain ⟨N2, w, tw, e2, low, hiw, qw, d3, bw⟩ := spec_Batch (L := L) hL k (N1 ++ [⟨flat ddE ds, 57, 3, true⟩]) s c1 (.sl N1.length 0 ds.length (ds.length * 3)) xss ds s1.ssa.grow (flat_RS (ty := 57) (e := 3) (o := true) ddE_len (by simp)) b1 b2 (by omega) bd
   generalize hbb : batch (s, xss) ds = bb at d3 bw y1 y2 yt yl
   rw [hm0] at d1
   have x12 : Ext N1 N2 := Ext.trans ⟨_, rfl⟩ bw.ext
   have x02 := x1.trans x12
   have l1 := x1.len
   have l2 := x12.len
   have A2 := x02.lv p0
   obtain ⟨P2, hP2⟩ : ∃ P, P = N2 ++ [⟨spC bb.1.1 w, 51, 0, true⟩] := ⟨_, rfl⟩
   have xN2 : Ext N2 P2 := ⟨_, hP2⟩
   have lP2 : P2.length = N2.length + 1 := by rw [hP2]; simp
   have pF6 : live P2 N2.length 141 = some ⟨spC bb.1.1 w, 51, 0, true⟩ := by rw [hP2]; exact lvAt0 (sp_len _ _).symm
   have pA2 := (x02.trans xN2).lv0 p0
   have sw2 : SO P2 low hiw w bb.1.2 := xN2.so bw.hib bw.so
   have tw2 : TV P2 (N1 ++ [(⟨flat ddE ds, 57, 3, true⟩ : Blk)]).length tw bb.2.1 qw := bw.tv.get fun hq => xN2.get hq
   -- the program
   obtain ⟨N3, c3, e3, d4, x3, s3, _⟩ := toSpO (X := libX) (L := L) (by omega) (k + 20) P2 s v xss ((hx0.trans (x02.trans xN2)).ss hv) b1 b2
   have l3 := x3.len
   have d5 := den_toDeedS (X := libX) (L := L) (k + 22) (N3 ++ [⟨spC s c3, 51, 0, true⟩]) dv ds ((hd.ext (hx0.trans (x02.trans (xN2.trans x3)))).grow) (by omega) bd
   simp only [List.length_append, List.length_cons, List.length_nil, List.append_assoc, List.cons_append, List.nil_append] at d5
   obtain ⟨P3, hP3⟩ : ∃ P, P = N3 ++ [⟨spC s c3, 51, 0, true⟩, ⟨flat ddE ds, 57, 3, true⟩] := ⟨_, rfl⟩
   have xN3 : Ext N3 P3 := ⟨_, hP3⟩
   have lP3 : P3.length = N3.length + 2 := by rw [hP3]; simp
   have pF9 : live P3 N3.length 141 = some ⟨spC s c3, 51, 0, true⟩ := by rw [hP3]; exact lvAt0 (sp_len _ _).symm
   have pD3 : P3[N3.length + 1]? = some ⟨flat ddE ds, 57, 3, true⟩ := by rw [hP3, get_app]; rfl
   obtain ⟨N4, g, tg, e4, log, hig, qg, d6, bg⟩ := impl_Batch (L := L) hL k P3 s c3 (.sl (N3.length + 1) 0 ds.length (ds.length * 3)) xss ds ((xN3.so (Nat.le_refl _) s3).ssa) (flat_RS ddE_len pD3) b1 b2 (by omega) bd
   rw [hbb] at d6 bg
   have l4 := bg.ext.len
   have g1 := bg.lob
   have g2 := bg.hib
   have x34 : Ext N3 N4 := xN3.trans bg.ext
   obtain ⟨P4, hP4⟩ : ∃ P, P = N4 ++ [⟨spC bb.1.1 g, 51, 0, true⟩] := ⟨_, rfl⟩
   have xN4 : Ext N4 P4 := ⟨_, hP4⟩
   have lP4 : P4.length = N4.length + 1 := by rw [hP4]; simp
   have x24 : Ext P2 P4 := x3.trans (x34.trans xN4)
   have pF11 : live P4 N4.length 141 = some ⟨spC bb.1.1 g, 51, 0, true⟩ := by rw [hP4]; exact lvAt0 (sp_len _ _).symm
   have A4 := x24.lv0 pF6
   have A4b := x24.lv0 pA2
   have A4c := (bg.ext.trans xN4).lv0 pF9
   have sg4 : SO P4 log hig g bb.1.2 := xN4.so g2 bg.so
   have sw4 : SO P4 low hiw w bb.1.2 := x24.so (by have := bw.hib; omega) sw2
   have tg4 : TV P4 P3.length tg bb.2.1 qg := bg.tv.get fun hq => xN4.get hq
   have tw4 : TV P4 (N1 ++ [(⟨flat ddE ds, 57, 3, true⟩ : Blk)]).length tw bb.2.1 qw := tw2.get fun hq => x24.get hq
   have s34 : SO P4 P2.length N3.length c3 xss := (x34.trans xN4).so (Nat.le_refl _) s3
   have q1 := den_eqSpace (X := libX) (L := L) (by omega) (k + 20) P4 bb.1.1 g w _ sg4.ss sw4.ss y1 y2
   have r1 := den_eqToldS (X := libX) (L := L) (k + 22) P4 tg tw _ tg4.ts tw4.ts (by omega) (by omega)
   have x04 : Ext m P4 := hx0.trans (x02.trans (xN2.trans x24))
   -- the arguments are what they were
   obtain ⟨N5, c5, e5, d7, x5, s5, _⟩ := toSpO (X := libX) (L := L) (by omega) (k + 20) P4 s v xss (x04.ss hv) b1 b2
   have l5 := x5.len
   have s35 := x5.so (by omega) s34
   have q2 := den_eqSpace (X := libX) (L := L) (by omega) (k + 20) N5 s c3 c5 xss s35.ss s5.ss b1 b2
   have G5 : N5[N3.length]? = some ⟨spC s c3, 51, 0, true⟩ := (live_some (x5.lv0 A4c)).1
   have G4 : P4[N3.length]? = some ⟨spC s c3, 51, 0, true⟩ := (live_some A4c).1
   have d8 := den_toDeedS (X := libX) (L := L) (k + 22) N5 dv ds (hd.ext (x04.trans x5)) (by omega) bd
   obtain ⟨P5, hP5⟩ : ∃ P, P = N5 ++ [⟨flat ddE ds, 57, 3, true⟩] := ⟨_, rfl⟩
   have xN5 : Ext N5 P5 := ⟨_, hP5⟩
   have lP5 : P5.length = N5.length + 1 := by rw [hP5]; simp
   have x35 : Ext P3 P5 := bg.ext.trans (xN4.trans (x5.trans xN5))
   have D5 : P5[N3.length + 1]? = some ⟨flat ddE ds, 57, 3, true⟩ := by rw [x35.get (by omega)]; exact pD3
   have r2 := den_eqDeedS (X := libX) (L := L) (k + 22) P5 (.sl (N3.length + 1) 0 ds.length (ds.length * 3)) (.sl N5.length 0 ds.length (ds.length * 3)) ds (flat_RS ddE_len D5) (flat_RS ddE_len (by rw [hP5, get_app0]; rfl)) (by omega) bd
   have A5 := x35.lv0 pF9
   have s55 := xN5.so (by omega) s35
   -- marked
   obtain ⟨N6, W6, e6, d9, w6, n6, a6, _⟩ := den_markSpace (X := libX) (L := L) (by omega) (k + 21) (s := s) s55 (by omega) b1 b2 (c0 := 1) (by omega) (by omega)
   obtain ⟨N7, W7, d10, n7, w7, a7⟩ := markD (L := L) (by omega) (k + 23) N6 (N3.length + 1) ds (1 + (tot xss : Int)) (by rw [a6 _ (.inr (by omega))]; exact D5) bd (by omega)
   have up67 : ∀ b, (b < P2.length ∨ (N3.length ≤ b ∧ b ≠ N3.length + 1)) → N7[b]? = P5[b]? := fun b hb => by rw [a7 b (by omega), a6 b (by omega)]
   have lv7 : ∀ b n B, (b < P2.length ∨ (N3.length ≤ b ∧ b ≠ N3.length + 1)) → live P5 b n = some B → live N7 b n = some B := fun b n B hb h => by
    unfold live at h ⊢; rw [up67 b hb]; exact h
   have x45 : Ext P4 P5 := x5.trans xN5
   have C11 := lv7 _ _ _ (.inr (by omega)) (x45.lv0 pF11)
   have C6 := lv7 _ _ _ (.inl (by omega)) (x45.lv0 A4)
   have sw7 : SO N7 low hiw w bb.1.2 := (x45.so (by have := bw.hib; omega) sw4).congr fun q _ h2 => up67 q (.inl (by have := bw.hib; omega))
   have sg7 : SO N7 log hig g bb.1.2 := (x45.so (by omega) sg4).congr fun q h1 _ => up67 q (.inr (by omega))
   have tg7 : TV N7 P3.length tg bb.2.1 qg := by
    rcases tg4 with h | ⟨h1, h2, h3⟩
    ·exact .inl h
    ·exact .inr ⟨h1, by rw [up67 _ (.inr (by omega)), x45.get (lt_of_get h2)]; exact h2, h3⟩
   have hqw : tw = .nils ∨ qw < N2.length := by
    rcases bw.told with ⟨h, _⟩ | ⟨_, h, _⟩
    ·exact .inl h
    ·exact .inr (lt_of_get h)
   have tw7 : TV N7 (N1 ++ [(⟨flat ddE ds, 57, 3, true⟩ : Blk)]).length tw bb.2.1 qw := by
    rcases tw4 with h | ⟨h1, h2, h3⟩
    ·exact .inl h
    ·rcases hqw with h | h
     ·rw [h] at h1; cases h1
     ·exact .inr ⟨h1, by rw [up67 _ (.inl (by omega)), x45.get (lt_of_get h2)]; exact h2, h3⟩
   have q3 := den_eqSpace (X := libX) (L := L) (by omega) (k + 20) N7 bb.1.1 g w _ sg7.ss sw7.ss y1 y2
   have r3 := den_eqToldS (X := libX) (L := L) (k + 22) N7 tg tw _ tg7.ts tw7.ts (by omega) (by omega)
   obtain ⟨N8, W8, e8, d11, w8, n8, a8, sg8⟩ := den_markSpace (X := libX) (L := L) (by omega) (k + 21) (s := bb.1.1) sg7 (by omega) y1 y2 (c0 := 1) (by omega) yt
   have hqg : tg = .nils ∨ (P3.length ≤ qg ∧ qg < N4.length ∧ (qg < log ∨ hig ≤ qg)) := by
    rcases bg.told with ⟨h, _⟩ | ⟨_, h, h2, h3⟩
    ·exact .inl h
    ·exact .inr ⟨h2, lt_of_get h, h3⟩
   have tg8 : TV N8 P3.length tg bb.2.1 qg := by
    rcases tg7 with h | ⟨h1, h2, h3⟩
    ·exact .inl h
    ·rcases hqg with h | ⟨h4, h5, h6⟩
     ·rw [h] at h1; cases h1
     ·exact .inr ⟨h1, by rw [a8 _ h6]; exact h2, h3⟩
   obtain ⟨N9, W9, d12, n9, w9, a9, hh⟩ := tg8.mark (L := L) (by omega) (k + 23) yl (c := 1 + (tot bb.1.2 : Int)) (by omega)
   have up9 : ∀ b, (b < P3.length ∨ N4.length ≤ b) → N9[b]? = N7[b]? := fun b hb => by
    rw [a9 b (by rcases hqg with h | h; exact .inl h; exact .inr (by omega)), a8 b (by omega)]
   have lv9 : ∀ b n B, (b < P3.length ∨ N4.length ≤ b) → live N7 b n = some B → live N9 b n = some B := fun b n B hb h => by
    unfold live at h ⊢; rw [up9 b hb]; exact h
   have sg9 : SO N9 log hig g (mkSS 1 bb.1.2) := sg8.congr fun q h1 h2 => a9 q (by rcases hqg with h | h; exact .inl h; exact .inr (by omega))
   have E11 := lv9 _ _ _ (.inr (Nat.le_refl _)) C11
   have E6 := lv9 _ _ _ (.inl (by omega)) C6
   have E1 := lv9 _ _ _ (.inl (by omega)) (lv7 _ _ _ (.inl (by omega)) (x45.lv0 A4b))
   have sw9 : SO N9 low hiw w bb.1.2 := sw7.congr fun q _ h2 => up9 q (.inl (by have := bw.hib; omega))
   have tw9 : TV N9 (N1 ++ [(⟨flat ddE ds, 57, 3, true⟩ : Blk)]).length tw bb.2.1 qw := by
    rcases tw7 with h | ⟨h1, h2, h3⟩
    ·exact .inl h
    ·rcases hqw with h | h
     ·rw [h] at h1; cases h1
     ·exact .inr ⟨h1, by rw [up9 _ (.inl (by omega))]; exact h2, h3⟩
   have q4 := den_heldSpace (X := libX) (L := L) (by omega) (k + 21) N9 bb.1.1 g _ 1 sg9.ss y1 y2 (by omega) yt
   have r4 := hh N9 (fun _ _ => rfl) (Nat.le_refl _)
   have x09 : Ext m N9 := Ext.of (by have := x04.len; omega) fun q hq => by
    rw [up9 q (.inl (by omega)), up67 q (.inl (by omega))]
    exact (x04.trans x45).get hq
   -- once more
   obtain ⟨Na, ca, ea, d13, xa, sa, _⟩ := toSpO (X := libX) (L := L) (by omega) (k + 20) N9 s v xss (x09.ss hv) b1 b2
   have la := xa.len
   have d14 := den_toDeedS (X := libX) (L := L) (k + 22) Na dv ds (hd.ext (x09.trans xa)) (by omega) bd
   obtain ⟨Nb, h, th, eb, loh, hih, qh, d15, bh⟩ := impl_Batch (L := L) hL k (Na ++ [⟨flat ddE ds, 57, 3, true⟩]) s ca (.sl Na.length 0 ds.length (ds.length * 3)) xss ds sa.ssa.grow (flat_RS (ty := 57) (e := 3) (o := true) ddE_len (by simp)) b1 b2 (by omega) bd
   rw [hbb] at d15 bh
   obtain ⟨Pb, hPb⟩ : ∃ P, P = Nb ++ [⟨spC bb.1.1 h, 51, 0, true⟩] := ⟨_, rfl⟩
   have xNb : Ext Nb Pb := ⟨_, hPb⟩
   have xab : Ext N9 Nb := xa.trans (Ext.trans ⟨_, rfl⟩ bh.ext)
   have x9b : Ext N9 Pb := xab.trans xNb
   have lb := x9b.len
   have F6 := xab.lv E6
   have F11 := xab.lv E11
   have sh9 : SO Pb loh hih h bb.1.2 := xNb.so bh.hib bh.so
   have q5 := den_eqSpace (X := libX) (L := L) (by omega) (k + 20) Pb bb.1.1 h w _ sh9.ss (x9b.so (by have := bw.hib; omega) sw9).ss y1 y2
   have r5 := den_eqToldS (X := libX) (L := L) (k + 22) Pb th tw _ (bh.tv.get fun hq => xNb.get hq).ts (tw9.get fun hq => x9b.get hq).ts (by omega) (by omega)
   have q6 := den_heldSpace (X := libX) (L := L) (by omega) (k + 21) Pb bb.1.1 g _ 1 (x9b.so (by omega) sg9).ss y1 y2 (by omega) yt
   have r6 := hh Pb (fun hn hq => x9b.get (by rcases hqg with h | h; exact absurd h hn; omega)) x9b.len
   have f1 := (x09.trans x9b).fin
   have lm := hx0.len
   have z6 : W6 - (N5.length + 1 - m.length) = 0 := by omega
   have z7 : W7 - (N6.length - m.length) = 0 := by omega
   have z8 : W8 - (N7.length - m.length) = 0 := by omega
   have z9 : W9 - (N8.length - m.length) = 0 := by omega
   have t1 : ¬ (1 : Int) + (tot xss : Int) + (ds.length : Int) * 3 < 0 := by omega
   have t2 : ¬ (1 : Int) + (tot bb.1.2 : Int) < 0 := by omega
   have t3 : ¬ (1 : Int) + (tot bb.1.2 : Int) + (bb.2.1.length : Int) * 2 < 0 := by omega
   rw [hP2] at d4
   rw [hP3] at d6
   rw [hP4] at d7 q1 r1 G4
   rw [hP5] at r2 d9
   rw [hPb] at q5 r5 q6 r6 f1
   have A4r := (x3.trans x34).lv pF6
   have A4br := (x3.trans x34).lv pA2
   have A4cr := bg.ext.lv pF9
   have A5r := x5.lv A4c
   have lm2 : m.length < N2.length := by omega
   have lm3 : N2.length < N3.length := by omega
   have lm4 : N3.length + 2 ≤ N4.length := by omega
   have lm5 : N4.length < N5.length := by omega
   have lm9 : N5.length < N9.length := by omega
   have lmb : N9.length ≤ Nb.length := xab.len
   have lm1 : m.length + 1 ≤ N1.length := by omega
   clear hbb lm sh9 lb x9b xab xNb hPb bh la sa xa x09 tw9 sw9 E6 sg9 lv9 up9 hh a9 w9 n9 tg8 hqg sg8 a8 n8 w8 tw7 hqw tg7 sg7 sw7 x45 lv7 up67 a7 w7 n7 a6 n6 w6 s55 A5 D5 x35 lP5 xN5 hP5 s35 l5 s5 x5 x04 s34 tw4 tg4 sw4 sg4 A4c A4b A4 pF11 x24 lP4 xN4 hP4 x34 g2 g1 l4 bg pD3 pF9 lP3 xN3 hP3 l3 s3 x3 tw2 sw2 pA2 pF6 lP2 xN2 hP2 l2 l1 x02 x12 bw x01 s1 x1 p0 l0 hx0 yl yt y2 y1 bd bt hm0 hdl hd hbs hb hv
   simp (maxSteps := 1000000) -implicitDefEqProofs (disch := first | omega | (simp [get_app, get_app0]; done) | rfl | (simp only [List.length_cons, List.length_append, List.length_take, List.length_drop, List.length_nil]; omega)) [-getElem?_pos, -C.refs, cr_sl, cr_ptr, cr_nils, cr_int, cr_bool, cr_ci, c_laws_FnExactBatch, z141, sp_len, sp_refs, sp_take, sp_over, hsz, h0, hsd, h1, d1, d2, d3, A2, d4, d5, d6, A4r, A4br, A4cr, q1, r1, d7, G4, G5, q2, d8, A5r, r2, d9, z6, d10, z7, C11, C6, q3, r3, t1, d11, z8, d12, z9, E11, q4, t2, r4, t3, E1, d13, d14, d15, F6, F11, q5, r5, q6, r6, f1]
end Go.Proofs.YtfbeplbcaanimaaGreat
