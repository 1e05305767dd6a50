/-
  Arguments of the laws: slices of slices of numbers.
-/
import Derived.Test.YtkoloapgeilbdaaArg
import Derived.Test.YtkoloapgeilbdaaSS
import Derived.ChangeSlices
set_option linter.unusedVariables false
set_option linter.unusedSimpArgs false
set_option maxRecDepth 100000
namespace Go.Proofs.Ytkoloapgeilbdaa

theorem atP_nat {a : Addr} (h : a.spot = none) (j : Nat) : a.add j = ⟨a.block, a.off + j, none⟩ := by
  obtain ⟨b, o, s⟩ := a
  simp only at h
  subst h
  unfold Addr.add
  by_cases hj : j = 0
  · subst hj; rfl
  · rw [if_neg hj]
theorem cell_spot {w : World} {a : Addr} {v : Value} (h : w.cell? a = some v) : a.spot = none ∧ a.block < w.heap.size := by
  unfold World.cell? at h
  split at h
  · rename_i he
    split at h
    · cases h
    · rename_i hs
      exact ⟨by simpa using hs, (Array.getElem?_eq_some_iff.1 he).1⟩
  · cases h
/-- A slice of numbers that came in, and the block that stands for it. -/
structure Bucket (w : World) (v : Value) (j : Nat) (c : C) (blk : Blk) (p : Nat × Nat) (xs : List Int) : Prop where
  own : blk.own = false
  esz : blk.esz = 0
  one : v.oneCell' = true
  lt : blk.cs ≠ [] → p.1 < w.heap.size
  cells : ∀ (i : Nat) (c : C), blk.cs[i]? = some c → ∃ x : Int, c = ci x ∧ w.cell? ⟨p.1, p.2 + i, none⟩ = some (.int .i64 x)
  len : xs.length ≤ 9223372036854775807
  form : (c = .nils ∧ xs = [] ∧ v = .slice none 0 0) ∨ ∃ off ad cap, c = .sl j off xs.length blk.cs.length ∧ (∀ i, i < xs.length → blk.cs[off + i]? = some (ci (nth xs i))) ∧
    v = .slice (some ad) xs.length cap ∧ (0 < xs.length ∨ off = 0 → ad = ⟨p.1, p.2 + off, none⟩) ∧ xs.length ≤ cap ∧ cap ≤ maxLen
section
variable {H : Type} {enc : TypeId × Value → H} {w : World}
theorem bucket_of {t : TypeId} {v : Value} {y : DataW H × List MemPlace} {fuel : Nat} (ht : Try.prog.underlying t = some (.slice 3)) (hx : DataW.trod enc Try.prog w 0 (fun _ => true) true fuel t [v] = some y) (j : Nat) :
    ∃ c blk p xs, Bucket w v j c blk p xs := by
  have hu : Try.prog.underlying 3 = some (.int .i64) := by kernel_rfl
  have hc : Try.prog.cellsOf 3 = 1 := by kernel_rfl
  rcases Go.ChangeShapes.open_ints ht hu hc hx with ⟨h1, _⟩ | ⟨a, len, cap, zs, h1, _, hle, hcap, hzl, _, hcell, _⟩
  · simp only [List.cons.injEq, and_true] at h1
    subst h1
    exact ⟨.nils, ⟨[], 3, 0, false⟩, (0, 0), [], ⟨rfl, rfl, rfl, fun h => absurd rfl h, by simp, by simp, .inl ⟨rfl, rfl, rfl⟩⟩⟩
  · simp only [List.cons.injEq, and_true] at h1
    subst h1
    simp only [if_true] at hzl
    by_cases h0 : len = 0
    · subst h0
      exact ⟨.sl j 1 0 0, ⟨[], 3, 0, false⟩, (0, 0), [], ⟨rfl, rfl, rfl, fun h => absurd rfl h, by simp, by simp, .inr ⟨1, a, cap, rfl, by simp, rfl, fun h => by simp at h, Nat.zero_le _, hcap⟩⟩⟩
    · obtain ⟨hsp, hblk⟩ := cell_spot (hcell 0 (by omega))
      have hsp' : a.spot = none := by
        have := hsp
        simpa [Addr.add] using this
      have hb' : a.block < w.heap.size := by simpa [Addr.add] using hblk
      have hl : (zs.take len).length = len := by rw [List.length_take]; omega
      refine ⟨.sl j 0 len zs.length, ⟨ints zs, 3, 0, false⟩, (a.block, a.off), zs.take len, ⟨rfl, rfl, rfl, fun _ => hb', fun i c hi => ?_, ?_, .inr ⟨0, a, cap, ?_, fun i hi => ?_, ?_, fun _ => ?_, ?_, hcap⟩⟩⟩
      · have hlt : i < zs.length := by
          have := (List.getElem?_eq_some_iff.1 hi).1
          rwa [ints_len] at this
        rw [ints_get' hlt] at hi
        injection hi with hi
        exact ⟨_, hi.symm, by rw [← atP_nat hsp']; exact hcell i hlt⟩
      · rw [hl]; unfold maxLen at hcap; omega
      · rw [hl, ints_len]
      · rw [hl] at hi
        rw [Nat.zero_add, ints_get' (by omega)]
        simp only [nth, List.getD_eq_getElem?_getD, List.getElem?_take]
        rw [if_pos (by omega)]
      · rw [hl]
      · have := atP_nat hsp' 0
        rwa [Addr.add, if_pos rfl] at this
      · rw [hl]; omega
theorem evo_ext {m0 l : List Blk} {ι0 ι : Nat → Nat × Nat} (h : ∀ j, j < m0.length → ι j = ι0 j) : Evo w ι0 m0 w ι (m0 ++ l) := by
  intro b blk hb
  have hlt := (List.getElem?_eq_some_iff.1 hb).1
  exact ⟨blk, by rw [List.getElem?_append_left hlt]; exact hb, fun _ => ⟨rfl, rfl, Nat.le_refl _, fun _ => ⟨h b hlt, fun _ => rfl⟩⟩⟩
/-- More blocks that are only read. -/
theorem sim_ext {base : Nat} {m0 l : List Blk} {ι0 ι : Nat → Nat × Nat} (s0 : Sim base w ι0 m0) (ho0 : ∀ (j : Nat) (blk : Blk), m0[j]? = some blk → blk.own = false) (h : ∀ j, j < m0.length → ι j = ι0 j)
    (hl : ∀ (j : Nat) (blk : Blk), l[j]? = some blk → blk.own = false ∧ blk.esz = 0 ∧ (blk.cs ≠ [] → (ι (m0.length + j)).1 < base) ∧ ∀ (q : Nat) (c : C), blk.cs[q]? = some c → ∃ r, w.cell? (atA ι (m0.length + j) q) = some r ∧ CR w ι (m0 ++ l) c r ∧ r.oneCell' = true) :
    Sim base w ι (m0 ++ l) ∧ ∀ (j : Nat) (blk : Blk), (m0 ++ l)[j]? = some blk → blk.own = false := by
  have hown : ∀ (j : Nat) (blk : Blk), (m0 ++ l)[j]? = some blk → blk.own = false := by
    intro j blk hj
    by_cases hlt : j < m0.length
    · rw [List.getElem?_append_left hlt] at hj; exact ho0 j blk hj
    · rw [List.getElem?_append_right (by omega)] at hj; exact (hl _ blk hj).1
  refine ⟨⟨s0.le, fun j blk hj ho => absurd ho (by rw [hown j blk hj]; exact Bool.false_ne_true), fun j blk hj ho hz => ?_, fun j blk hj ho hz => ?_, fun b b' blk blk' hb hb' ho => absurd ho (by rw [hown b blk hb]; exact Bool.false_ne_true)⟩, hown⟩
  · by_cases hlt : j < m0.length
    · rw [List.getElem?_append_left hlt] at hj
      obtain ⟨k1, k2⟩ := s0.ro j blk hj ho hz
      refine ⟨by rw [h j hlt]; exact k1, fun q c hq => ?_⟩
      obtain ⟨r, r1, r2, r3⟩ := k2 q c hq
      refine ⟨r, ?_, r2.evo (evo_ext h), r3⟩
      rw [← r1]
      unfold atA
      rw [h j hlt]
    · rw [List.getElem?_append_right (by omega)] at hj
      obtain ⟨_, _, k1, k2⟩ := hl _ blk hj
      rw [show m0.length + (j - m0.length) = j by omega] at k1 k2
      exact ⟨k1, k2⟩
  · by_cases hlt : j < m0.length
    · rw [List.getElem?_append_left hlt] at hj; exact s0.non j blk hj ho hz
    · rw [List.getElem?_append_right (by omega)] at hj; exact absurd (hl _ blk hj).2.1 hz
/-- An argument that is a slice of slices of numbers: memory that is only read, behind what is there already. -/
theorem arg_ssAt {base : Nat} {t s : TypeId} {v : Value} {dd : DataW H} {p : List MemPlace} {m0 : List Blk} {ι0 : Nat → Nat × Nat} (s0 : Sim w.heap.size w ι0 m0) (ho0 : ∀ (j : Nat) (blk : Blk), m0[j]? = some blk → blk.own = false)
    (ht : Try.prog.underlying t = some (.slice s)) (hs : Try.prog.underlying s = some (.slice 3)) (hcs : Try.prog.cellsOf s = 1)
    (h : DataW.Trod enc Try.prog w 0 (fun _ => true) true t v dd p) (hv : Value.okWide Try.prog w .any base t v) :
    ∃ (xss : List (List Int)) (c : C) (l : List Blk) (ι : Nat → Nat × Nat), SS (m0 ++ l) c xss ∧ xss.length ≤ 9223372036854775807 ∧ (∀ xs ∈ xss, xs.length ≤ 9223372036854775807) ∧ (∀ (j : Nat) (blk : Blk), (m0 ++ l)[j]? = some blk → blk.own = false) ∧
      Sim w.heap.size w ι (m0 ++ l) ∧ VR w ι (m0 ++ l) (.c c) v ∧ Evo w ι0 m0 w ι (m0 ++ l) := by
  obtain ⟨fuel, hx⟩ := h
  obtain ⟨a0, len0, cap0, rfl⟩ := Go.WideShapes.okWide_slice ht hv
  rcases DataW.trod_slice ht hx with ⟨h1, _⟩ | ⟨a, len, cap, elems, rest, n, _, h1, _, _, hl, hm, hlen, hel, _, _⟩
  · simp only [Value.cells, List.cons.injEq, and_true, Value.slice.injEq] at h1
    obtain ⟨rfl, rfl, rfl⟩ := h1
    refine ⟨[], .nils, [], ι0, .inl ⟨rfl, rfl⟩, by simp, by simp, ?_, ?_, .c .nils, ?_⟩
    · rw [List.append_nil]; exact ho0
    · rw [List.append_nil]; exact s0
    · rw [List.append_nil]; exact Evo.refl _ _ _
  · simp only [Value.cells, List.cons.injEq, and_true, Value.slice.injEq] at h1
    obtain ⟨rfl, rfl, rfl⟩ := h1
    by_cases h0 : len0 = 0
    · subst h0
      obtain ⟨q1, q2⟩ := sim_ext (l := [⟨[], 3, 0, false⟩]) s0 ho0 (fun _ _ => rfl) (fun j blk hj => by
        cases j with
        | zero => cases hj; exact ⟨rfl, rfl, fun h => absurd rfl h, fun q c hq => by simp at hq⟩
        | succ j => simp at hj)
      refine ⟨[], .sl m0.length 1 0 0, [⟨[], 3, 0, false⟩], ι0, .inr ⟨m0.length, 1, 0, ⟨[], 3, 0, false⟩, rfl, ?_, .inl rfl, by simp⟩, by simp, by simp, q2, q1, ?_, evo_ext fun _ _ => rfl⟩
      · simp [live]
      · exact .c (.sl rfl (blk := ⟨[], 3, 0, false⟩) (by simp) (Nat.le_refl _) ⟨.inr rfl⟩ fun _ => ⟨_, _, rfl, fun h => by omega, Nat.zero_le _, hm, fun h => absurd h (Nat.lt_irrefl _)⟩)
    · have each : ∀ i, i < len0 → ∃ (cv : Value) (c : C) (blk : Blk) (q : Nat × Nat) (xs : List Int), w.cell? (a.add i) = some cv ∧ Bucket w cv (m0.length + (i + 1)) c blk q xs := by
        intro i hi
        have hE := hel i hi
        rw [hcs, Nat.mul_one] at hE
        rw [List.getElem?_eq_getElem (by omega)] at hE
        simp only [Option.bind_eq_some_iff] at hE
        obtain ⟨cs1, hc1, hy⟩ := hE
        have hw := World.cells?_some hc1
        have hl1 : cs1.length = 1 := by have := hw.2.1; first | exact this | omega
        match cs1, hl1 with
        | [cv], _ =>
          obtain ⟨c, blk, q, xs, hb⟩ := bucket_of hs hy (m0.length + (i + 1))
          exact ⟨cv, c, blk, q, xs, Go.ChangeShapes.cell_of_cells?_one hc1, hb⟩
      have each' : ∀ i, ∃ z : Value × C × Blk × (Nat × Nat) × List Int, i < len0 → w.cell? (a.add i) = some z.1 ∧ Bucket w z.1 (m0.length + (i + 1)) z.2.1 z.2.2.1 z.2.2.2.1 z.2.2.2.2 := fun i => by
        by_cases hi : i < len0
        · obtain ⟨cv, c, blk, q, xs, k1, k2⟩ := each i hi
          exact ⟨(cv, c, blk, q, xs), fun _ => ⟨k1, k2⟩⟩
        · exact ⟨(undef, .nils, dead, (0, 0), []), fun h => absurd h hi⟩
      let z := fun i => Classical.choose (each' i)
      have hz : ∀ i, i < len0 → w.cell? (a.add i) = some (z i).1 ∧ Bucket w (z i).1 (m0.length + (i + 1)) (z i).2.1 (z i).2.2.1 (z i).2.2.2.1 (z i).2.2.2.2 := fun i => Classical.choose_spec (each' i)
      clear_value z
      obtain ⟨hsp, hblk⟩ := cell_spot (hz 0 (by omega)).1
      have hsp' : a.spot = none := by simpa [Addr.add] using hsp
      have hb' : a.block < w.heap.size := by simpa [Addr.add] using hblk
      let xss := (List.range len0).map fun i => (z i).2.2.2.2
      let l : List Blk := ⟨(List.range len0).map fun i => (z i).2.1, 3, 0, false⟩ :: (List.range len0).map fun i => (z i).2.2.1
      let ι : Nat → Nat × Nat := fun j => if j < m0.length then ι0 j else if j = m0.length then (a.block, a.off) else (z (j - m0.length - 1)).2.2.2.1
      have hι0 : ∀ j, j < m0.length → ι j = ι0 j := fun j hj => by simp [ι, hj]
      have hιh : ι m0.length = (a.block, a.off) := by simp [ι]
      have hιz : ∀ i, ι (m0.length + (i + 1)) = (z i).2.2.2.1 := fun i => by
        simp only [ι]
        rw [if_neg (by omega), if_neg (by omega), show m0.length + (i + 1) - m0.length - 1 = i by omega]
      have hxl : xss.length = len0 := by simp [xss]
      have hxn : ∀ i, i < len0 → nthL xss i = (z i).2.2.2.2 := fun i hi => by simp [nthL, xss, List.getD_eq_getElem?_getD, hi]
      have hl0 : l[0]? = some ⟨(List.range len0).map fun i => (z i).2.1, 3, 0, false⟩ := rfl
      have hlS : ∀ i, i < len0 → l[i + 1]? = some (z i).2.2.1 := fun i hi => by simp [l, hi]
      have hm0 : (m0 ++ l)[m0.length]? = some ⟨(List.range len0).map fun i => (z i).2.1, 3, 0, false⟩ := by rw [get_app0]; exact hl0
      have hmS : ∀ i, i < len0 → (m0 ++ l)[m0.length + (i + 1)]? = some (z i).2.2.1 := fun i hi => by rw [get_app]; exact hlS i hi
      have hlN : ∀ j blk, l[j]? = some blk → j = 0 ∧ blk = ⟨(List.range len0).map fun i => (z i).2.1, 3, 0, false⟩ ∨ ∃ i, j = i + 1 ∧ i < len0 ∧ blk = (z i).2.2.1 := by
        intro j blk hj
        cases j with
        | zero => cases hj; exact .inl ⟨rfl, rfl⟩
        | succ i =>
          have hi : i < len0 := by
            have := (List.getElem?_eq_some_iff.1 hj).1
            simp [l] at this
            omega
          rw [hlS i hi] at hj
          injection hj with hj
          exact .inr ⟨i, rfl, hi, hj.symm⟩
      have hSl : ∀ i, i < len0 → Sl (m0 ++ l) (z i).2.1 (z i).2.2.2.2 := fun i hi => by
        have hB := (hz i hi).2
        rcases hB.form with ⟨k1, k2, _⟩ | ⟨off, ad, cp, k1, k2, _⟩
        · rw [k1, k2]; exact .inl ⟨rfl, rfl⟩
        · refine .inr ⟨m0.length + (i + 1), off, _, (z i).2.2.1, k1, ?_, .inl hB.esz, k2⟩
          unfold live
          rw [hmS i hi, Option.bind_some, if_pos rfl]
      have hCR : ∀ i, i < len0 → CR w ι (m0 ++ l) (z i).2.1 (z i).1 := fun i hi => by
        have hB := (hz i hi).2
        rcases hB.form with ⟨k1, _, k3⟩ | ⟨off, ad, cp, k1, _, k3, k4, k5, k6⟩
        · rw [k1, k3]; exact .nils
        · rw [k1]
          refine .sl hB.one (hmS i hi) (Nat.le_refl _) ⟨.inr hB.esz⟩ fun _ => ⟨ad, cp, k3, fun h => ?_, k5, k6, fun h => by rw [hB.esz] at h; exact absurd h (Nat.lt_irrefl _)⟩
          rw [k4 h]
          unfold atA
          rw [hιz]
      obtain ⟨q1, q2⟩ := sim_ext (l := l) s0 ho0 hι0 (fun j blk hj => by
        rcases hlN j blk hj with ⟨rfl, rfl⟩ | ⟨i, rfl, hi, rfl⟩
        · refine ⟨rfl, rfl, fun _ => by rw [Nat.add_zero, hιh]; exact hb', fun q c hq => ?_⟩
          have hql : q < len0 := by
            have := (List.getElem?_eq_some_iff.1 hq).1
            simpa using this
          simp only [List.getElem?_map, List.getElem?_range hql, Option.map_some, Option.some.injEq] at hq
          subst hq
          refine ⟨(z q).1, ?_, hCR q hql, (hz q hql).2.one⟩
          rw [← (hz q hql).1, atP_nat hsp']
          unfold atA
          rw [Nat.add_zero, hιh]
        · refine ⟨(hz i hi).2.own, (hz i hi).2.esz, fun hne => by rw [hιz]; exact (hz i hi).2.lt hne, fun q c hq => ?_⟩
          obtain ⟨x, rfl, hx⟩ := (hz i hi).2.cells q c hq
          refine ⟨_, ?_, .int _ _, rfl⟩
          rw [← hx]
          unfold atA
          rw [hιz])
      refine ⟨xss, .sl m0.length 0 len0 len0, l, ι, .inr ⟨m0.length, 0, len0, ⟨(List.range len0).map fun i => (z i).2.1, 3, 0, false⟩, by rw [hxl], ?_, .inl rfl, fun j hj => ?_⟩, by rw [hxl]; unfold maxLen at hm; omega, fun xs hxs => ?_, q2, q1, ?_, evo_ext hι0⟩
      · unfold live
        rw [hm0, Option.bind_some, if_pos (by simp)]
      · rw [hxl] at hj
        exact ⟨(z j).2.1, by simp [hj], by rw [hxn j hj]; exact hSl j hj⟩
      · obtain ⟨i, hi, rfl⟩ := List.mem_map.1 hxs
        exact (hz i (List.mem_range.1 hi)).2.len
      · refine .c (.sl rfl hm0 (by simp) ⟨.inr rfl⟩ fun _ => ⟨_, _, rfl, fun _ => ?_, hl, hm, fun h => absurd h (Nat.lt_irrefl _)⟩)
        have := atP_nat hsp' 0
        rw [Addr.add, if_pos rfl] at this
        unfold atA
        rw [hιh]
        exact this
theorem arg_ss {base : Nat} {t s : TypeId} {v : Value} {dd : DataW H} {p : List MemPlace} (ht : Try.prog.underlying t = some (.slice s)) (hs : Try.prog.underlying s = some (.slice 3)) (hcs : Try.prog.cellsOf s = 1)
    (h : DataW.Trod enc Try.prog w 0 (fun _ => true) true t v dd p) (hv : Value.okWide Try.prog w .any base t v) :
    ∃ (xss : List (List Int)) (c : C) (m : List Blk) (ι : Nat → Nat × Nat), SS m c xss ∧ xss.length ≤ 9223372036854775807 ∧ (∀ xs ∈ xss, xs.length ≤ 9223372036854775807) ∧ (∀ (j : Nat) (blk : Blk), m[j]? = some blk → blk.own = false) ∧ Sim w.heap.size w ι m ∧ VR w ι m (.c c) v := by
  obtain ⟨xss, c, l, ι, k1, k2, k3, k4, k5, k6, _⟩ := arg_ssAt (sim_nil w) (by simp) ht hs hcs h hv
  rw [List.nil_append] at k1 k4 k5 k6
  exact ⟨xss, c, l, ι, k1, k2, k3, k4, k5, k6⟩
end
end Go.Proofs.Ytkoloapgeilbdaa
