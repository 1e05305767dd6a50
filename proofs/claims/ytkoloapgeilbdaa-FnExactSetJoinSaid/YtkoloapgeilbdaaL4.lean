/-
  The abstract machine is sound: append.
-/
import Derived.Test.YtkoloapgeilbdaaL3
import Derived.Maps.AppendAt
set_option linter.unusedVariables false
set_option linter.unusedSimpArgs false
namespace Go.Proofs.Ytkoloapgeilbdaa
open Go.RowKit

section
variable {P : Program} {base : Nat} {w0 w : World} {ι0 ι : Nat → Nat × Nat} {m0 : List Blk} {a : Act} {o : Oper} {st : St}

theorem AR.append {m : List Blk} {cs ds : List C} {rs qs : List Value} (h : AR w ι m cs rs) (k : AR w ι m ds qs) : AR w ι m (cs ++ ds) (rs ++ qs) := by
  refine ⟨by simp [h.1, k.1], fun j c hj => ?_⟩
  rw [List.getElem?_append] at hj ⊢
  rw [← h.1]
  split at hj
  · rename_i hlt
    rw [if_pos hlt]
    exact h.2 j c hj
  · rename_i hlt
    rw [if_neg hlt]
    exact k.2 _ c hj

theorem AR.ones {m : List Blk} {cs : List C} {rs : List Value} (h : AR w ι m cs rs) : ∀ v ∈ rs, v.oneCell' = true := by
  intro v hv
  obtain ⟨j, hj⟩ := List.getElem?_of_mem hv
  have hj' : j < cs.length := by rw [h.1]; exact (List.getElem?_eq_some_iff.1 hj).1
  obtain ⟨r, r1, _, r3⟩ := h.2 j cs[j] (by simp [hj'])
  rw [hj] at r1
  injection r1 with r1
  rw [r1]; exact r3

/-- A slice's cells cleared. -/
theorem zeroCells_one (u : Value) (n : Nat) : (Builtin.zeroCells #[u] n).toList = List.replicate n u := by
  simp [Builtin.zeroCells]
  apply List.ext_getElem
  · simp
  · intro i h1 h2
    simp [Nat.mod_one]
theorem rep_flat (n : Nat) (z : C) : rep n [z] = List.replicate n z := by
  unfold rep
  induction n with
  | zero => rfl
  | succ n ih => rw [List.replicate_succ, List.flatten_cons, ih, List.replicate_succ]; rfl
theorem does_clr (h : MR base w0 ι0 m0 w ι st.mem st.esc st.wr) (he : EnvR w ι st.mem st.env a) {c : Call} (ho : o.op = .call c) (hc : c.callee = .builtin .clear) {x : Operand} (ha : c.args = #[x]) {t e : TypeId} (hat : c.argTypes = #[t]) (hu : P.underlying t = some (.slice e))
    {z : C} (hz : zeroT P e = some [z]) {b off n tot : Nat} (hx : (trO x).ev st.env = .c (.sl b off n tot)) (hn : n ≠ 0) {st' : St} (hw : wrt st m0.length b off tot (rep n [z]) = some st') :
    DoesL P base w0 ι0 m0 w ι st.mem a o (.c .undef) st' := by
  rw [rep_flat] at hw
  unfold wrt guard' at hw
  simp only [Option.bind_eq_some_iff] at hw
  obtain ⟨blk, hl, hw⟩ := hw
  split at hw
  · rename_i hcd
    obtain ⟨hown, hle⟩ := hcd
    injection hw with hw
    subst hw
    obtain ⟨hb, ht⟩ := live_some hl
    have hp := (ev_VR he x)
    rw [hx] at hp
    obtain ⟨ad, cap, x1, x5, x2, x3, x4⟩ := hp.sl hl
    have x5 := x5 (.inl (by omega))
    subst x5
    obtain ⟨v0, hv0, hr, ⟨i, hi, hiz⟩, hall⟩ := zeroT_some hz
    have hr0 := hr w ι st.mem
    have hlen1 : v0.cells.toList.length = 1 := hr0.1.symm
    obtain ⟨u, hu0⟩ : ∃ u, v0.cells = #[u] := by
      cases hq : v0.cells with
      | mk l =>
        rw [hq] at hlen1
        match l, hlen1 with
        | [u], _ => exact ⟨u, rfl⟩
    rw [hu0] at hr0
    obtain ⟨r0, k1, k2, k3⟩ := hr0.2 0 z rfl
    simp only [List.getElem?_cons_zero, Option.some.injEq] at k1
    subst k1
    have har : AR w ι st.mem (List.replicate n z) (List.replicate n u) := by
      refine ⟨by simp, fun j c hj => ?_⟩
      have hj' : j < n := by have := (List.getElem?_eq_some_iff.1 hj).1; simpa using this
      rw [List.getElem?_replicate_of_lt hj', Option.some.injEq] at hj
      subst hj
      exact ⟨u, List.getElem?_replicate_of_lt hj', k2, k3⟩
    obtain ⟨g1, g2, rc, g3, g4, g5⟩ := h.sim.own b blk hb hown
    have hblt : b < st.mem.length := (List.getElem?_eq_some_iff.1 hb).1
    have hat2 : atA ι b off = ⟨(ι b).1, off, none⟩ := by simp [atA, g2]
    have hle' : off + n ≤ blk.cs.length := by simpa using hle
    have hst := run_storeCells_at (P := P) (ι b).1 off blk.ty (List.replicate n u) 0 rc w g3 (by simp; omega) (by intro v hv; rw [List.eq_of_mem_replicate hv]; exact k3)
    simp only [Nat.add_zero] at hst
    obtain ⟨q, rfl⟩ : ∃ q, n = q + 1 := ⟨n - 1, by omega⟩
    have hrun : (execOp a.eval o).run P w = .ok (.value undef) (w.setRow (ι b).1 (rc.toList.take off ++ (List.replicate (q + 1) u) ++ rc.toList.drop (off + (List.replicate (q + 1) u).length)).toArray) := by
      simp [execOp, ho, resolve, hc, ha, hat, invoke, builtin, x1, hat2, Builtin.clear_, run_underlying hu, hv0, hu0, zeroCells_one, hst, undef]
    obtain ⟨l1, l2⟩ := lay_rel (R := fun c r => CR w ι st.mem c r ∧ r.oneCell' = true) (cs := blk.cs) (new := List.replicate (q + 1) z) (rc := rc.toList) (news := List.replicate (q + 1) u) (off := off) hle (by simpa using g4) har.1
      (fun j c hj => by obtain ⟨r, r1, r2⟩ := g5 j c hj; exact ⟨r, by simpa using r1, r2⟩) har.2
    have hsame : sizeAt (w.setRow (ι b).1 (rc.toList.take off ++ (List.replicate (q + 1) u) ++ rc.toList.drop (off + (List.replicate (q + 1) u).length)).toArray) (ι b).1 = sizeAt w (ι b).1 := by
      unfold sizeAt
      rw [setRow_heap w _ rc _ _ _ g3, g3]
      simp
      omega
    obtain ⟨ι', i1, _, i2, i3⟩ := h.upd (w' := w.setRow (ι b).1 (rc.toList.take off ++ (List.replicate (q + 1) u) ++ rc.toList.drop (off + (List.replicate (q + 1) u).length)).toArray) (m' := st.mem.set b { blk with cs := lay blk.cs off (List.replicate (q + 1) z) }) (b := b) (g := (ι b).1)
      (blk' := { blk with cs := lay blk.cs off (List.replicate (q + 1) z) }) (e' := mx st.esc (refsL (List.replicate (q + 1) z))) (wr' := mx st.wr (m0.length - b))
      (fun j => get_set_one hblt j) rfl rfl rfl (by simp) (fun q hq => by
        by_cases e : q = (ι b).1
        · exact .inr ⟨blk, hb, hown, e.symm⟩
        · exact .inl (setRow_other w _ q _ e))
      (.inr ⟨blk, hb, hown, rfl, by simp [l1], fun _ => ⟨rfl, hsame⟩⟩) hown (.inl ⟨rfl, hblt⟩) (setRow_heap w _ rc _ _ _ g3) (by simp only [l1]; simp; omega)
      (fun w'' i' m'' hev j c hj => by
        obtain ⟨r, r1, r2, r3⟩ := l2 j c hj
        exact ⟨r, by rw [← List.getElem?_toArray] at r1; exact r1, r2.evo hev, r3⟩)
      ⟨le_mx_l _ _, by rw [mx_eq]; omega⟩
      (fun c hc => by
        rcases lay_mem hc with hc | hc
        · exact .inr ⟨blk, hb, hc⟩
        · exact .inl (refsL_le.1 (le_mx_r st.esc (refsL (List.replicate (q + 1) z))) c hc)) (le_mx_l _ _)
    exact ⟨_, ι', undef, .inl hrun, .c .undef, i3, i2⟩
  · cases hw

/-- What an append adds, in the world. -/
theorem src_some (h : MR base w0 ι0 m0 w ι st.mem st.esc st.wr) (he : EnvR w ι st.mem st.env a) {esz n : Nat} {x : Operand} {new : List C} (hs : src st.env st.mem esz (trO x) = some (n, new)) :
    new.length = n * esz ∧ n ≤ maxLen ∧ ((n = 0 ∧ new = [] ∧ a.eval x = .slice none 0 0) ∨ ∃ ad cap news, a.eval x = .slice (some ad) n cap ∧ AR w ι st.mem new news ∧ ∀ j u, news[j]? = some u → w.cell? (ad.add j) = some u) := by
  have hx := ev_VR he x
  unfold src guard' at hs
  split at hs
  · rename_i hp
    rw [hp] at hx
    injection hs with hs
    simp only [Prod.mk.injEq] at hs
    obtain ⟨rfl, rfl⟩ := hs
    exact ⟨by simp, by unfold maxLen; omega, .inl ⟨rfl, rfl, hx.nils⟩⟩
  · rename_i b off k tot hp
    rw [hp] at hx
    simp only [Option.bind_eq_some_iff] at hs
    obtain ⟨blk, hl, hs⟩ := hs
    split at hs
    · rename_i hle
      injection hs with hs
      simp only [Prod.mk.injEq] at hs
      obtain ⟨rfl, rfl⟩ := hs
      obtain ⟨ad, cap, c1, c4, c2, c3, _⟩ := hx.sl hl
      obtain ⟨news, n1, n2⟩ := h.sim.cells (live_some hl).1 off (k * esz) hle
      refine ⟨by simp; omega, by omega, .inr ⟨_, cap, news, c1, n1, fun j u hj => ?_⟩⟩
      have hk : 0 < k := by
        rcases Nat.eq_zero_or_pos k with h0 | h0
        · subst h0
          have hlen := n1.1
          simp at hlen
          have := (List.getElem?_eq_some_iff.1 hj).1
          omega
        · exact h0
      rw [c4 (.inl hk)]
      exact n2 j u hj
    · cases hs
  · cases hs

theorem run_append_nil (t ty e : TypeId) (i : TypeInfo) (ht : P.underlying t = some (.slice e)) (hi : P.info? e = some i) (b : Option Addr) (n cap : Nat) (h : n ≤ cap) (w : World) :
    (Builtin.append_ #[t, t] ty #[.slice b n cap, .slice none 0 0]).run P w = .ok (.slice b n cap) w := by
  cases b with
  | none => simp [Builtin.append_, run_underlying ht, sizeOf, typeInfo, hi, Builtin.lenOf, Builtin.firstCells, h]
  | some ad => simp [Builtin.append_, run_underlying ht, sizeOf, typeInfo, hi, Builtin.lenOf, Builtin.firstCells, h, storeCells]

theorem run_append_none (t ty e : TypeId) (i : TypeInfo) (ht : P.underlying t = some (.slice e)) (hi : P.info? e = some i) (b : Option Addr) (n cap : Nat) (h : n ≤ cap) (y : Option Addr) (c : Nat) (w : World) :
    (Builtin.append_ #[t, t] ty #[.slice b n cap, .slice y 0 c]).run P w = .ok (.slice b n cap) w := by
  cases b <;> cases y <;> simp [Builtin.append_, run_underlying ht, sizeOf, typeInfo, hi, Builtin.lenOf, Builtin.firstCells, h, loadCells, loadCellsFrom, storeCells]

theorem does_app (h : MR base w0 ι0 m0 w ι st.mem st.esc st.wr) (he : EnvR w ι st.mem st.env a) {t e : TypeId} {x y : Operand} {c : Call} (ho : o.op = .call c) (hc : c.callee = .builtin .append) (ha : c.args = #[x, y]) (hat : c.argTypes = #[t, t])
    (hu : P.underlying t = some (.slice e)) {i : TypeInfo} (hi : P.info? e = some i) (hz : ∃ z, i.zero = some z ∧ z.cells.size = i.size) {v : V} {st' : St}
    (call : FuncId → List V → List Blk → Option Ret) (hs : stepL call m0.length st (.app (trO x) (trO y) e i.size i.bytes) = some (v, st')) :
    DoesL P base w0 ι0 m0 w ι st.mem a o v st' := by
  obtain ⟨z, hz1, hz2⟩ := hz
  simp only [stepL, guard', Option.bind_eq_some_iff] at hs
  obtain ⟨⟨n, new⟩, hsrc, hs⟩ := hs
  obtain ⟨hnl, hnm, hsr⟩ := src_some h he hsrc
  have hx := ev_VR he x
  have hexec : ∀ r w', (Builtin.append_ #[t, t] o.type #[a.eval x, a.eval y]).run P w = .ok r w' → (execOp a.eval o).run P w = .ok (.value r) w' := by
    intro r w' hr
    simp [execOp, ho, resolve, hc, ha, hat, invoke, builtin, hr]
  split at hs
  · -- onto nil
    rename_i hp
    rw [hp] at hx
    have hx := hx.nils
    split at hs
    · rename_i hn0
      injection hs with hs
      simp only [Prod.mk.injEq] at hs
      obtain ⟨rfl, rfl⟩ := hs
      have hn0 : n = 0 := hn0
      subst hn0
      have hr : (Builtin.append_ #[t, t] o.type #[a.eval x, a.eval y]).run P w = .ok (.slice none 0 0) w := by
        rw [hx]
        rcases hsr with ⟨_, _, h3⟩ | ⟨ad, cap, news, h1, h2, h3⟩
        · rw [h3]; exact run_append_nil t o.type e i hu hi none 0 0 (Nat.le_refl _) w
        · rw [h1]
          simp [Builtin.append_, run_underlying hu, sizeOf, typeInfo, hi, Builtin.lenOf, Builtin.firstCells, loadCells, loadCellsFrom]
      exact ⟨w, ι, _, .inl (hexec _ _ hr), .c .nils, h, Evo.refl _ _ _⟩
    · rename_i hn0
      split at hs
      · rename_i hb
        obtain ⟨hb, hez, _⟩ := hb
        injection hs with hs
        simp only [Prod.mk.injEq] at hs
        obtain ⟨rfl, rfl⟩ := hs
        rcases hsr with ⟨h1, _, _⟩ | ⟨ad, cap, news, h1, h2, h3⟩
        · exact absurd h1 hn0
        · have hnews : news.length = n * i.size := by rw [← hnl, h2.1]
          obtain ⟨v', w1, r1, r2, r3, r4, r5⟩ := run_append_own_at (P := P) w w.heap.size t o.type e i z i.size i.bytes hu hi hz1 rfl rfl hz2 hez (.slice none 0 0) 0 [] ⟨by simp, .inl ⟨rfl, rfl⟩⟩ ad n cap news hnews h3 h2.ones (by omega) (by simpa using hb) (Nat.le_refl _)
          simp only [Nat.zero_add, List.nil_append] at r2
          obtain ⟨hlen, r2⟩ := r2
          rcases r2 with ⟨hv', hn'⟩ | ⟨g, cp, cur, hv', hg, hh, hle, hmx, hcs, htk⟩
          · exact absurd hn' hn0
          · subst hv'
            have hcurl : news.length ≤ cur.toList.length := by
              rw [hnews]; simp; rw [hcs]; exact Nat.mul_le_mul_right _ hle
            obtain ⟨ι', i1, _, i2, i3⟩ := h.upd (w' := w1) (m' := st.mem ++ [⟨new, e, i.size, true⟩]) (b := st.mem.length) (g := g) (blk' := ⟨new, e, i.size, true⟩) (rc := cur) (e' := mx st.esc (refsL new)) (wr' := st.wr)
              (fun j => get_append_one j) r3.os r3.tape r3.output r3.size (fun q hq => .inl (r3.block q hq (by simp [Value.ownBlock]))) (.inl rfl) rfl (.inr hg) hh (by rw [h2.1]; simpa using hcurl)
              (fun w'' i' m'' hev j c hj => by
                obtain ⟨r, q1, q2, q3⟩ := (h2.evo hev).2 j c hj
                refine ⟨r, ?_, q2, q3⟩
                have hjl : j < n * i.size := by rw [← hnl]; exact (List.getElem?_eq_some_iff.1 hj).1
                rw [← htk, List.getElem?_take, if_pos hjl] at q1
                simpa using q1)
              ⟨Nat.le_refl _, Nat.le_add_right_of_le h.evo.len⟩ (fun c hc => .inl (refsL_le.1 (le_mx_r st.esc (refsL new)) c hc)) (le_mx_l _ _)
            refine ⟨w1, ι', _, .inl (hexec _ _ (by rw [hx, h1]; exact r1)), ?_, i3, i2⟩
            refine .c (.sl rfl (blk := ⟨new, e, i.size, true⟩) (by simp) (by simp [hnl]) ⟨.inl rfl⟩ fun _ => ⟨_, cp, rfl, fun _ => by simp [atA, i1], hle, hmx, fun _ _ => ?_⟩)
            rw [i1]
            simp [sizeAt, hh, hcs]
      · cases hs
  · -- onto a slice of its own
    rename_i b off len tot hp
    rw [hp] at hx
    simp only [Option.bind_eq_some_iff] at hs
    obtain ⟨blk, hl, hs⟩ := hs
    split at hs
    · rename_i hcond
      obtain ⟨hown, hesz, hez, hty, rfl, htot, hbytes, hb0⟩ := hcond
      injection hs with hs
      simp only [Prod.mk.injEq] at hs
      obtain ⟨rfl, rfl⟩ := hs
      obtain ⟨hb, ht⟩ := live_some hl
      obtain ⟨ad0, cap0, x1, x5, x2, x3, x4⟩ := hx.sl hl
      have x5 := x5 (.inr rfl)
      subst x5
      have hcapsz := x4 (by omega) rfl
      obtain ⟨g1, g2, rc, g3, g4, g5⟩ := h.sim.own b blk hb hown
      have hblt : b < st.mem.length := (List.getElem?_eq_some_iff.1 hb).1
      have hat0 : atA ι b 0 = ⟨(ι b).1, 0, none⟩ := by simp [atA, g2]
      have hrcs : rc.size = cap0 * i.size := by
        unfold sizeAt at hcapsz
        rw [g3] at hcapsz
        injection hcapsz with hcapsz
        rw [hcapsz, hesz]
      have hcsl : blk.cs.length = len * i.size := by rw [← ht, htot]
      -- the cells that are there
      have hold : AR w ι st.mem blk.cs (rc.toList.take (len * i.size)) := by
        refine ⟨by rw [hcsl]; simp; omega, fun j c hj => ?_⟩
        obtain ⟨r, q1, q2, q3⟩ := g5 j c hj
        have hjl : j < len * i.size := by rw [← hcsl]; exact (List.getElem?_eq_some_iff.1 hj).1
        exact ⟨r, by rw [List.getElem?_take, if_pos hjl]; simpa using q1, q2, q3⟩
      have hownrow : w.ownsRow base e i.size (a.eval x) len (rc.toList.take (len * i.size)) := by
        refine ⟨by simp; omega, .inr ⟨(ι b).1, cap0, rc, by rw [x1, hat0], g1, by rw [g3, hty], x2, x3, hrcs, rfl⟩⟩
      by_cases hnone : n = 0
      · -- nothing is added
        subst hnone
        obtain rfl : new = [] := List.eq_nil_of_length_eq_zero (by simpa using hnl)
        have hy0 : ∃ yb yc, a.eval y = .slice yb 0 yc := by
          rcases hsr with ⟨q1, q2, q3⟩ | ⟨ad, cap, news, q1, _, _⟩
          · exact ⟨_, _, q3⟩
          · exact ⟨_, _, q1⟩
        obtain ⟨yb, yc, hy0⟩ := hy0
        have hset : st.mem.set b { blk with cs := blk.cs ++ [] } = st.mem := by
          rw [List.append_nil]
          apply List.ext_getElem?
          intro j
          rw [get_set_one hblt]
          split
          · rename_i e0; subst e0; exact hb.symm
          · rfl
        have hmr : MR base w0 ι0 m0 w ι (st.mem.set b { blk with cs := blk.cs ++ [] }) (mx st.esc (refsL [])) (mx st.wr (m0.length - b)) := by
          rw [hset]
          have hl := le_mx_l st.wr (m0.length - b)
          refine ⟨h.sim, h.evo, h.fr, h.fresh, ⟨fun j hj => h.bel.1 j (by omega), fun g hg hn => h.bel.2 g hg fun j blk hj => hn j blk (by omega)⟩, h.refs0, fun j blk0 c q1 q2 => ?_⟩
          have := le_mx_l st.esc (refsL [])
          exact (h.esc j blk0 c q1 q2).imp (fun h => by omega) id
        refine ⟨w, ι, a.eval x, .inl (hexec _ _ ?_), ?_, hmr, by show Evo w ι st.mem w ι (st.mem.set b { blk with cs := blk.cs ++ [] }); rw [hset]; exact Evo.refl _ _ _⟩
        · rw [hy0, x1]
          exact run_append_none t o.type e i hu hi _ len cap0 x2 yb yc w
        · show VR w ι (st.mem.set b { blk with cs := blk.cs ++ [] }) _ _
          rw [hset]
          simpa using hx
      · rcases hsr with ⟨q3, _, _⟩ | ⟨ad, cap, news, q1, q2, q3⟩
        · exact absurd q3 hnone
        · have hnews : news.length = n * i.size := by rw [← hnl, q2.1]
          have h63 : len + n ≤ maxLen := by
            have := Nat.mul_le_mul_left (len + n) hb0
            unfold maxLen
            omega
          obtain ⟨v', w1, r1, r2, r3, r4, r5⟩ := run_append_own_at (P := P) w base t o.type e i z i.size i.bytes hu hi hz1 rfl rfl hz2 hez (a.eval x) len _ hownrow ad n cap news hnews q3 q2.ones h63 hbytes h.sim.le
          obtain ⟨hlen, r2⟩ := r2
          rcases r2 with ⟨hv', hn'⟩ | ⟨g, cp, cur, hv', hg, hh, hle, hmx, hcs, htk⟩
          · exfalso
            have := (r4.1 hv').1
            rw [x1] at this
            cases this
          · have hob : (a.eval x).ownBlock = some (ι b).1 := by rw [x1, hat0]; rfl
            rw [hob] at r3 r5
            rw [hv'] at r5
            simp only [Value.ownBlock, Option.some.injEq] at r5
            have hlt : (ι b).1 < w.heap.size := h.sim.block_lt hb ⟨.inl ‹_›⟩ (.inl ‹_›)
            have hall : AR w ι st.mem (blk.cs ++ new) (rc.toList.take (len * i.size) ++ news) := hold.append q2
            have s1 : blk.cs.length = (blk.cs ++ new).length → g = (ι b).1 ∧ sizeAt w1 g = sizeAt w g := fun e0 => by
              exfalso
              simp only [List.length_append, hnl] at e0
              have : 0 < n * i.size := Nat.mul_pos (by omega) hez
              omega
            have s2 : g = (ι b).1 ∧ b < st.mem.length ∨ w.heap.size ≤ g := by
              rcases r5 with r5 | r5
              · exact .inl ⟨r5, hblt⟩
              · exact .inr (by omega)
            have s3 : (blk.cs ++ new).length ≤ cur.size := by
              simp only [List.length_append, hcsl, hnl, hcs]
              rw [← Nat.add_mul]
              exact Nat.mul_le_mul_right _ hle
            obtain ⟨ι', i1, _, i2, i3⟩ := h.upd (w' := w1) (m' := st.mem.set b { blk with cs := blk.cs ++ new }) (b := b) (g := g) (blk' := { blk with cs := blk.cs ++ new }) (rc := cur) (e' := mx st.esc (refsL new)) (wr' := mx st.wr (m0.length - b))
              (fun j => get_set_one hblt j) r3.os r3.tape r3.output r3.size (fun q hq => by
                by_cases e0 : q = (ι b).1
                · exact .inr ⟨blk, hb, hown, e0.symm⟩
                · exact .inl (r3.block q hq (by simpa using e0)))
              (.inr ⟨blk, hb, hown, rfl, by simp, s1⟩) hown s2 (by rw [hh, hty]) s3
              (fun w'' i' m'' hev j c hj => by
                obtain ⟨r, p1, p2, p3⟩ := (hall.evo hev).2 j c hj
                refine ⟨r, ?_, p2, p3⟩
                have hjl : j < (len + n) * i.size := by
                  have := (List.getElem?_eq_some_iff.1 hj).1
                  simp [hcsl, hnl] at this
                  rw [Nat.add_mul]; exact this
                rw [← htk, List.getElem?_take, if_pos hjl] at p1
                simpa using p1)
              ⟨le_mx_l _ _, by rw [mx_eq]; omega⟩
              (fun c hc => by
                simp only [List.mem_append] at hc
                rcases hc with hc | hc
                · exact .inr ⟨blk, hb, hc⟩
                · left
                  have := refsL_le.1 (le_mx_r st.esc (refsL new)) c hc
                  omega) (le_mx_l _ _)
            refine ⟨w1, ι', v', .inl (hexec _ _ (by rw [q1]; exact r1)), ?_, i3, i2⟩
            subst hv'
            refine .c (.sl rfl (blk := { blk with cs := blk.cs ++ new }) (by simp [get_set_one hblt]) (by simp [hnl, ht]) ⟨.inl ‹_›⟩ fun _ => ⟨_, cp, rfl, fun _ => by simp [atA, i1], hle, hmx, fun _ _ => ?_⟩)
            rw [i1]
            simp [sizeAt, hh, hcs, hesz]
    · cases hs
  · cases hs
end
end Go.Proofs.Ytkoloapgeilbdaa
