/-
 What is handed back with a set of one's own in it; spaces of one's own.
-/
import Derived.Test.YtfbeplbcaanimaaGreatSp
import Derived.Test.YtfbeplbcaanimaaGreatGF
set_option linter.unusedVariables false
set_option linter.unusedSimpArgs false
set_option maxHeartbeats 4000000
set_option maxRecDepth 100000
namespace Go.Proofs.YtfbeplbcaanimaaGreat
variable {X : FuncId → List V → List Blk → Option Ret} {L : Nat}
theorem SO.form {m : List Blk} {lo hi : Nat} {c : C} {xss : List (List Int)} (h : SO m lo hi c xss) : ∃ q n, c = .sl q 0 n n := by
 obtain ⟨b, _, _, _, _, h3, _⟩ := h
 exact ⟨b, _, h3⟩
theorem cr_sl (q a b d : Nat) : (C.sl q a b d).refs = q + 1 := rfl
theorem cr_ptr (q a b : Nat) : (C.ptr q a b).refs = q + 1 := rfl
theorem cr_nils : C.nils.refs = 0 := rfl
theorem cr_int (k : IntKind) (x : Int) : (C.int k x).refs = 0 := rfl
theorem cr_bool (x : Bool) : (C.bool x).refs = 0 := rfl
theorem cr_ci (x : Int) : (ci x).refs = 0 := rfl
theorem z10r : [C.int .i64 0, .int .i64 0, .int .i64 0, .int .i64 0, .int .i64 0, .int .i64 0, .int .i64 0, .int .i64 0, .int .i64 0, .int .i64 0] = ringV (fun _ => 0, 0, 0) := rfl
theorem chn_over (f g : Nat → Nd) (a b : Int) : lay (chn f a) 0 (chn g b) = chn g b := lay_all (by rw [chn_l, chn_l])
theorem ring_over (r r' : R3) : lay (ringV r) 0 (ringV r') = ringV r' := lay_all (by rw [ring_l, ring_l])
theorem chn_take (f : Nat → Nd) (a : Int) : (chn f a).take 65 = chn f a := List.take_of_length_le (by rw [chn_l]; exact Nat.le_refl _)
theorem ring_take (r : R3) : (ringV r).take 10 = ringV r := List.take_of_length_le (by rw [ring_l]; exact Nat.le_refl _)
theorem ring_z (r : R3) : refsL (ringV r) = 0 := rfl
structure One (W : C → V) : Prop where
 refs : ∀ c, (W c).refs = c.refs
 own : ∀ c n0, (W c).own n0 = c.own n0
 ren : ∀ c f, (W c).ren f = W (c.ren f)
theorem fin_w {W : C → V} (hW : One W) {m M : List Blk} {hi e : Nat} {c : C} {env : List (Nat × V)} {xss : List (List Int)} (hE : Ext m M) (h : SO M m.length hi c xss) (hm : hi ≤ M.length) (ha : hi ≤ mx e c.refs) :
  ∃ M' c' e', fin m.length (W c) ⟨env, M, e, 0⟩ = ⟨W c', M', e', 0⟩ ∧ Ext m M' ∧ SO M' m.length M'.length c' xss ∧ M'.length ≤ mx e' c'.refs := by
 obtain ⟨q, hs, bi, h1, h2, rfl, h4, h5, h6, h7⟩ := h
 have hqm : m.length ≤ q := h1
 have hcr : (C.sl q 0 xss.length xss.length).refs = q + 1 := rfl
 rw [hcr] at ha
 have hr : (W (.sl q 0 xss.length xss.length)).refs = q + 1 := hW.refs _
 have ho : (W (.sl q 0 xss.length xss.length)).own m.length = [q] := by
  rw [hW.own]
  show (if q < m.length then [] else [q]) = [q]
  rw [if_neg (Nat.not_lt.2 hqm)]
 unfold fin
 simp only [if_true]
 rw [hr, ho, if_neg (by omega)]
 have hn : nub [q] = [q] := rfl
 rw [hn]
 by_cases hz : refsL hs = 0
 ·have hp : pickB M [q] = some [⟨hs, 103, 1, true⟩] := by
   unfold pickB
   rw [h4, Option.bind_some, if_pos hz]
   rfl
  rw [hp]
  refine ⟨m ++ [⟨hs, 103, 1, true⟩], .sl m.length 0 xss.length xss.length, 0, ?_, ⟨_, rfl⟩, ⟨m.length, hs, fun j => m.length + 1 + j, Nat.le_refl _, by simp, rfl, by simp, h5, fun i j _ _ hij => by simp only at hij; omega, fun j hj => ?_⟩, by simp [C.refs, mx_eq]⟩
  ·have hren : ∀ f, (W (.sl q 0 xss.length xss.length)).ren f = W (.sl (f q) 0 xss.length xss.length) := fun f => by rw [hW.ren]; rfl
   have hpos : pos m.length [q] q = m.length := by simp [pos]
   simp only
   rw [hren, hpos, hE.fin0]
  ·obtain ⟨c, k1, k2⟩ := h7 j hj
   refine ⟨c, k1, ?_⟩
   rcases k2 with k2 | ⟨cs, k2, _⟩
   ·exact .inl k2
   ·have := refsL_get k1
    rw [k2] at this
    simp only [C.refs] at this
    omega
 ·have hp : pickB M [q] = none := by
   unfold pickB
   rw [h4, Option.bind_some, if_neg hz]
  rw [hp]
  refine ⟨M.take (mx m.length (mx e (q + 1))), .sl q 0 xss.length xss.length, e, rfl, ?_, ?_, by rw [List.length_take]; simp only [C.refs, mx_eq]; omega⟩
  ·exact hE.cut (le_mx_l _ _)
  ·have ha' : hi ≤ mx m.length (mx e (q + 1)) := Nat.le_trans ha (le_mx_r _ _)
   have : SO M m.length hi (.sl q 0 xss.length xss.length) xss := ⟨q, hs, bi, h1, h2, rfl, h4, h5, h6, h7⟩
   exact (this.congr (m' := M.take (mx m.length (mx e (q + 1)))) fun j _ hj => List.getElem?_take_of_lt (by omega)).wide (Nat.le_refl _) (by rw [List.length_take]; omega)
theorem fin_w' {W : C → V} (hW : One W) {m M : List Blk} {hi e : Nat} {c : C} {env : List (Nat × V)} {xss : List (List Int)} (hE : Ext m M) (h : SO M m.length hi c xss) (hm : hi ≤ M.length) (ha : hi ≤ mx e c.refs) :
  ∃ M' c' e', some (fin m.length (W c) ⟨env, M, e, 0⟩) = some ⟨W c', M', e', 0⟩ ∧ Ext m M' ∧ SO M' m.length M'.length c' xss ∧ M'.length ≤ mx e' c'.refs := by
 obtain ⟨M', c', e', h1, h2⟩ := fin_w hW (env := env) hE h hm ha
 exact ⟨M', c', e', congrArg some h1, h2⟩
theorem one_sp (s : Spc) : One fun c => .agg (spC s c) :=
 ⟨fun c => by show refsL (spC s c) = _; exact sp_refs s c, fun c n0 => by show (spC s c).flatMap (·.own n0) = _; exact sp_own s c n0, fun c f => by show V.agg ((spC s c).map (·.ren f)) = _; rw [sp_ren]⟩
theorem one_spt (s : Spc) (a b : Int) : One fun c => .tup [.agg (spC s c), .agg [ci a, ci b]] := by
 refine ⟨fun c => ?_, fun c n0 => ?_, fun c f => ?_⟩
 ·show mx (refsL (spC s c)) (mx (refsL [ci a, ci b]) 0) = _
  rw [sp_refs]
  generalize c.refs = r
  simp [refsL, C.refs, ci, mx_eq]
 ·show (spC s c).flatMap (·.own n0) ++ ([ci a, ci b].flatMap (·.own n0) ++ []) = _
  rw [sp_own]
  show c.own n0 ++ [] = _
  rw [List.append_nil]
 ·show V.tup [.agg ((spC s c).map (·.ren f)), .agg ([ci a, ci b].map (·.ren f))] = _
  rw [sp_ren]; rfl
end Go.Proofs.YtfbeplbcaanimaaGreat
