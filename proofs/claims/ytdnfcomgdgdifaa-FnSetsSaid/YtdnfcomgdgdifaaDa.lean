/-
  Arguments of the laws: slices of bytes; what the laws ask of them; lists compared.
-/
import Derived.Test.YtdnfcomgdgdifaaDr
import Derived.Test.YtdnfcomgdgdifaaBA
import Derived.ChangeSlices
set_option linter.unusedVariables false
set_option linter.unusedSimpArgs false
set_option maxRecDepth 100000
set_option maxHeartbeats 4000000
namespace Go.Proofs.Ytdnfcomgdgdifaa
variable {X : FuncId → List V → List Blk → Option Ret} {L : Nat}

def bys (bs : List Int) : List C := bs.map fun x => .int .u8 x
theorem bys_len (bs : List Int) : (bys bs).length = bs.length := by simp [bys]
theorem bys_get {bs : List Int} {j : Nat} (h : j < bs.length) : (bys bs)[j]? = some (.int .u8 (bs.getD j 0)) := by simp [bys, h, List.getD_eq_getElem?_getD]
/-- An argument that is a slice of bytes: memory that is only read. -/
theorem arg_bytes {H : Type} {enc : TypeId × Value → H} {w : World} {base : Nat} {t : TypeId} {v : Value} {dd : DataW H} {p : List MemPlace}
    (ht : Try.prog.underlying t = some (.slice 5)) (h : DataW.Trod enc Try.prog w 0 (fun _ => true) true t v dd p) (hv : Value.okWide Try.prog w .any base t v) :
    ∃ (zs : List Int) (c : C) (m : List Blk) (ι : Nat → Nat × Nat), SlB m c zs ∧ (∀ (j : Nat) (blk : Blk), m[j]? = some blk → blk.own = false) ∧ Sim w.heap.size w ι m ∧ VR w ι m (.c c) v := by
  obtain ⟨fuel, hx⟩ := h
  obtain ⟨a0, len, cap, rfl⟩ := Go.WideShapes.okWide_slice ht hv
  have hu : Try.prog.underlying 5 = some (.int .u8) := by kernel_rfl
  have hc : Try.prog.cellsOf 5 = 1 := by kernel_rfl
  rcases Go.ChangeShapes.open_ints ht hu hc hx with ⟨h1, _⟩ | ⟨a, len', cap', zs, h1, _, hle, hcap, hzl, _, hcell, hwf⟩
  · simp only [Value.cells, List.cons.injEq, and_true, Value.slice.injEq] at h1
    obtain ⟨rfl, rfl, rfl⟩ := h1
    exact ⟨[], .nils, [], fun _ => (0, 0), ⟨.inl ⟨rfl, rfl⟩, by simp⟩, by simp, sim_nil w, .c .nils⟩
  · simp only [Value.cells, List.cons.injEq, and_true, Value.slice.injEq] at h1
    obtain ⟨rfl, rfl, rfl⟩ := h1
    simp only [if_true] at hzl
    by_cases h0 : len = 0
    · subst h0
      refine ⟨[], .sl 0 1 0 0, [⟨[], 5, 0, false⟩], fun _ => (0, 0), ⟨.inr ⟨0, 1, 0, _, rfl, rfl, by simp⟩, by simp⟩, ?_, ⟨Nat.le_refl _, ?_, ?_, ?_, ?_⟩, ?_⟩
      · intro j blk hj; cases j with | zero => cases hj; rfl | succ j => simp at hj
      · intro j blk hj ho; cases j with | zero => cases hj; cases ho | succ j => simp at hj
      · intro j blk hj ho hz; cases j with | zero => cases hj; exact ⟨fun h => absurd rfl h, by simp⟩ | succ j => simp at hj
      · intro j blk hj ho hz; cases j with | zero => cases hj; rfl | succ j => simp at hj
      · intro b b' blk blk' hb hb' ho; cases b with | zero => cases hb; cases ho | succ j => simp at hb
      · exact .c (.sl rfl (by rfl) (Nat.le_refl _) ⟨.inr rfl⟩ fun _ => ⟨_, _, rfl, fun h => by omega, Nat.zero_le _, hcap, fun h => absurd h (Nat.lt_irrefl _)⟩)
    · have hsp : a.spot = none := by
        have := hcell 0 (by omega)
        unfold World.cell? at this
        split at this
        · split at this
          · cases this
          · rename_i hs
            simpa [Addr.add] using hs
        · cases this
      have hblk : a.block < w.heap.size := by
        have := hcell 0 (by omega)
        unfold World.cell? at this
        split at this
        · rename_i he
          exact (Array.getElem?_eq_some_iff.1 he).1
        · cases this
      refine ⟨zs.take len, .sl 0 0 len zs.length, [⟨bys zs, 5, 0, false⟩], fun _ => (a.block, a.off), ⟨.inr ⟨0, 0, zs.length, ⟨bys zs, 5, 0, false⟩, ?_, ?_, ?_⟩, ?_⟩, ?_, ⟨Nat.le_refl _, ?_, ?_, ?_, ?_⟩, ?_⟩
      · rw [List.length_take, Nat.min_eq_left (by omega)]
      · simp [live, bys_len]
      · intro j hj
        rw [List.length_take] at hj
        rw [Nat.zero_add, bys_get (by omega)]
        simp only [nth, List.getD_eq_getElem?_getD, List.getElem?_take]
        rw [if_pos (by omega)]
      · intro j hj
        rw [List.length_take] at hj
        have hm : nth (zs.take len) j ∈ zs := by
          have hj2 : j < (zs.take len).length := by rw [List.length_take]; exact hj
          have : nth (zs.take len) j = (zs.take len)[j] := by simp only [nth, List.getD_eq_getElem?_getD, List.getElem?_eq_getElem hj2, Option.getD_some]
          rw [this]
          exact List.mem_of_mem_take (List.getElem_mem hj2)
        have := hwf _ hm
        simp only [Lit.wf, Bool.and_eq_true, decide_eq_true_eq] at this
        exact ⟨this.1, this.2⟩
      · intro j blk hj; cases j with | zero => cases hj; rfl | succ j => simp at hj
      · intro j blk hj ho; cases j with | zero => cases hj; cases ho | succ j => simp at hj
      · intro j blk hj ho hz
        cases j with
        | zero =>
          cases hj
          refine ⟨fun _ => hblk, fun j c hj => ?_⟩
          have hl : j < zs.length := by
            have := (List.getElem?_eq_some_iff.1 hj).1
            rwa [bys_len] at this
          rw [bys_get hl] at hj
          cases hj
          refine ⟨_, ?_, .int _ _, rfl⟩
          rw [← hcell j hl, atA_nat hsp]
        | succ j => simp at hj
      · intro j blk hj ho hz; cases j with | zero => cases hj; exact absurd rfl hz | succ j => simp at hj
      · intro b b' blk blk' hb hb' ho; cases b with | zero => cases hb; cases ho | succ j => simp at hb
      · refine .c (.sl rfl (by rfl) (by rw [bys_len]; exact Nat.le_refl _) ⟨.inr rfl⟩ fun _ => ⟨_, _, rfl, fun _ => ?_, hle, hcap, fun h => absurd h (Nat.lt_irrefl _)⟩)
        have := atA_nat hsp 0
        rwa [Addr.add, if_pos rfl] at this

theorem den_big (k : Nat) (m : List Blk) (c : C) (bs : List Int) (hs : SlB m c bs) : den T X L (k + 1) 10 [.c c] m = some ⟨vb (decide (bs.length > 1048576)), m, 0, 0⟩ := by
  rw [den_eq T_10]
  have hl := hs.lenV
  simp (maxSteps := 1000000) (implicitDefEqProofs := false) (disch := omega) [-getElem?_pos, c_laws_big, hl]
  omega
/-- What a law asks of its code at a place: a number below 256. -/
def atB (bs : List Int) (i : Nat) : Int := if i < bs.length then nth bs i else ((i : Int) * 7 + bs.length) % 256
theorem atB_in {m : List Blk} {c : C} {bs : List Int} (hs : SlB m c bs) (i : Nat) : 0 ≤ atB bs i ∧ atB bs i ≤ 255 := by
  unfold atB
  split
  · exact hs.2 i (by assumption)
  · omega
theorem den_at (k : Nat) (m : List Blk) (c : C) (bs : List Int) (hs : SlB m c bs) (hb : bs.length ≤ 1048576) (i : Nat) (hi : i ≤ 1000000) :
    den T X L (k + 1) 17 [.c c, vi i] m = some ⟨vi (atB bs i), m, 0, 0⟩ := by
  rw [den_eq T_17]
  have hl := hs.lenV
  unfold atB
  by_cases h : i < bs.length
  · have h' : (i : Int) < (bs.length : Int) := by omega
    have hx := hs.ixV (i := (i : Int)) (by omega)
    rw [Int.toNat_natCast] at hx
    have hd := hs.ldV h
    have hv := hs.2 i h
    simp (maxSteps := 1000000) (implicitDefEqProofs := false) (disch := omega) [-getElem?_pos, c_laws_at, hl, h, h', hx, hd]
  · have h' : ¬ (i : Int) < (bs.length : Int) := by omega
    simp (maxSteps := 1000000) (implicitDefEqProofs := false) (disch := omega) [-getElem?_pos, c_laws_at, hl, h, h']
theorem Sl.part {m : List Blk} {b o n t : Nat} {xs : List Int} (h : m[b]? = some (blkI xs)) (ht : t = xs.length) (ho : o + n ≤ xs.length) : Sl m (.sl b o n t) ((xs.drop o).take n) := by
  subst ht
  have hl : ((xs.drop o).take n).length = n := by rw [List.length_take, List.length_drop]; omega
  refine .inr ⟨b, o, xs.length, blkI xs, by rw [hl], by simp [live, h, ints_len], .inr rfl, fun j hj => ?_⟩
  rw [hl] at hj
  show (ints xs)[o + j]? = _
  rw [ints_get' (by omega)]
  simp only [nth, List.getD_eq_getElem?_getD, List.getElem?_take, List.getElem?_drop]
  rw [if_pos hj]
theorem drop_nth' {xs : List Int} {i : Nat} (h : i < xs.length) : xs.drop i = nth xs i :: xs.drop (i + 1) := by
  rw [List.drop_eq_getElem_cons h]
  simp [nth, List.getD_eq_getElem?_getD, h]
theorem den_within (k : Nat) (m : List Blk) (v : C) (xs : List Int) (y : Int) (hv : Sl m v xs) (hx : xs.length < L) (hb : xs.length < 4611686018427387904) :
    den T X L (k + 1) 31 [.c v, vi y] m = some ⟨vb (decide (y ∈ xs)), m, 0, 0⟩ := by
  rw [den_eq T_31]
  have hlp := iter_blk (n0 := m.length) (id := 0) (ka := some []) (f := fun s => exec (den T X L k) L m.length none c_laws_within_b0 s) (tr := trim m.length (some [0, 1, 5])) (σ := Nat)
    (fun i => ⟨[(0, .c v), (1, vi y), (5, vi i)], m, 0, 0⟩) (fun i => i ≤ xs.length) (fun i => xs.length - i)
    (fun i => if y ∈ xs.drop i then (.ret, ⟨[(4, vb true)], m, 0, 0⟩) else (.norm, ⟨[], m, 0, 0⟩)) ?w
  case w =>
    intro i hi
    by_cases he : i = xs.length
    · refine ⟨.exit 0, _, by simp (maxSteps := 1000000) (implicitDefEqProofs := false) (disch := omega) [-getElem?_pos, c_laws_within_b0, he, hv.lenV]; rfl, ?_⟩
      rw [he, List.drop_length, if_neg (by simp)]
      simp (maxSteps := 1000000) (implicitDefEqProofs := false) (disch := omega) [-getElem?_pos, c_blkx, take_mx]
    · have hi' : (i : Int) < (xs.length : Int) := by omega
      have hiv : (0 : Int) ≤ i ∧ (i : Int) < xs.length := by omega
      by_cases hq : nth xs i = y
      · refine ⟨.ret, _, by simp (maxSteps := 1000000) (implicitDefEqProofs := false) (disch := omega) [-getElem?_pos, c_laws_within_b0, hi', hv.lenV, hv.ixV hiv, hv.ldV (show i < xs.length by omega), hq]; rfl, ?_⟩
        rw [drop_nth' (by omega), if_pos (by simp [hq])]
        simp (maxSteps := 1000000) (implicitDefEqProofs := false) (disch := omega) [-getElem?_pos, c_blkr, take_mx]
      · refine ⟨.norm, _, by simp (maxSteps := 1000000) (implicitDefEqProofs := false) (disch := omega) [-getElem?_pos, c_laws_within_b0, hi', hv.lenV, hv.ixV hiv, hv.ldV (show i < xs.length by omega), hq]; rfl, i + 1, ?_, by omega, by omega, ?_⟩
        · simp (maxSteps := 1000000) (implicitDefEqProofs := false) (disch := omega) [-getElem?_pos, take_mx]
        · rw [drop_nth' (i := i) (by omega)]
          have : ¬ y = nth xs i := fun h => hq h.symm
          simp [this]
  simp (maxSteps := 1000000) (implicitDefEqProofs := false) (disch := omega) [-getElem?_pos, c_laws_within]
  rw [hlp L 0 _ (Nat.zero_le _) ?tr (by show xs.length - 0 < L; omega)]
  case tr => simp (maxSteps := 1000000) (implicitDefEqProofs := false) (disch := omega) [-getElem?_pos, take_mx]
  rw [List.drop_zero]
  by_cases hq : y ∈ xs
  · rw [if_pos hq]
    simp (maxSteps := 1000000) (implicitDefEqProofs := false) (disch := omega) [-getElem?_pos, hq]
  · rw [if_neg hq]
    simp (maxSteps := 1000000) (implicitDefEqProofs := false) (disch := omega) [-getElem?_pos, hq]
end Go.Proofs.Ytdnfcomgdgdifaa
