/-
  The abstract machine is sound: each operation that leaves the memory alone.
-/
import Derived.Test.YtkoloapgeilbdaaQ
set_option linter.unusedVariables false
set_option linter.unusedSimpArgs false
namespace Go.Proofs.Ytkoloapgeilbdaa
open Go.RowKit

section
variable {P : Program} {w : World} {ι : Nat → Nat × Nat} {m : List Blk} {base : Nat} {env : List (Nat × V)} {a : Act} {o : Oper}

/-- What an operation that leaves the memory alone comes to. -/
def Does (P : Program) (w : World) (ι : Nat → Nat × Nat) (m : List Blk) (a : Act) (o : Oper) (v : V) : Prop :=
  ∃ r, VR w ι m v r ∧ ∀ w', Below w.heap.size w w' → (execOp a.eval o).run P w' = .ok (.value r) w'

theorem does_mov (he : EnvR w ι m env a) {x : Operand} (ho : o.op = .move x ∨ o.op = .assign x) : Does P w ι m a o ((trO x).ev env) := by
  refine ⟨a.eval x, ev_VR he x, fun w' _ => ?_⟩
  rcases ho with ho | ho <;> simp [execOp, ho]

theorem does_pick (he : EnvR w ι m env a) {c x y : Operand} (ho : o.op = .pick c x y) {v : V}
    (hs : stepQ env m (.pick (trO c) (trO x) (trO y)) = some v) : Does P w ι m a o v := by
  simp only [stepQ, guard', Option.bind_eq_some_iff, Option.some.injEq] at hs
  obtain ⟨t, ht, rfl⟩ := hs
  have hc := ev_VR he c
  rw [bool?_some ht] at hc
  refine ⟨if t then a.eval x else a.eval y, ?_, fun w' _ => ?_⟩
  · cases t
    · exact ev_VR he y
    · exact ev_VR he x
  · simp [execOp, ho, hc.bool, asBool]

theorem does_load (s : Sim base w ι m) (he : EnvR w ι m env a) {t : TypeId} {x : Operand} (ho : o.op = .load t x) {i : I} (ht : trI P (.load t x) = some i) {v : V}
    (hs : stepQ env m i = some v) : Does P w ι m a o v := by
  simp only [trI, Option.bind_eq_some_iff] at ht
  obtain ⟨ag, hag, ht⟩ := ht
  have hx := ev_VR he x
  cases ag with
  | true =>
    simp only [if_true, Option.map_eq_some_iff] at ht
    obtain ⟨n, hn, rfl⟩ := ht
    simp only [stepQ, guard'] at hs
    split at hs
    · rename_i b off tot hp
      simp only [Option.bind_eq_some_iff] at hs
      obtain ⟨blk, hl, hs⟩ := hs
      split at hs
      · rename_i hle
        injection hs with hs; subst hs
        rw [hp] at hx
        obtain ⟨rs, h1, h2⟩ := run_load_agg (P := P) s hag hn (live_some hl).1 (hx.pal (live_some hl).1) off hle
        refine ⟨.agg rs.toArray, .agg (by simpa using h1), fun w' hw => ?_⟩
        simp [execOp, ho, hx.ptr hl, Instr.loadAt, Instr.sureAddr, h2 w' hw]
      · cases hs
    · cases hs
  | false =>
    simp only [Bool.false_eq_true, if_false, Option.some.injEq] at ht
    subst ht
    simp only [stepQ, guard'] at hs
    split at hs
    · rename_i b off tot hp
      simp only [Option.bind_eq_some_iff] at hs
      obtain ⟨blk, hl, c, hc, hs⟩ := hs
      injection hs with hs; subst hs
      rw [hp] at hx
      obtain ⟨r, h1, _, h2⟩ := run_load_one (P := P) s hag (live_some hl).1 (hx.pal (live_some hl).1) hc
      refine ⟨r, .c h1, fun w' hw => ?_⟩
      simp [execOp, ho, hx.ptr hl, Instr.loadAt, Instr.sureAddr, h2 w' hw]
    · cases hs

theorem atA_add (b o k : Nat) : (atA ι b o).add k = atA ι b (o + k) := add_atA ι b o k

theorem ptr_in {b o tot : Nat} {blk : Blk} (hl : live m b tot = some blk) (ha : blk.alive) (o' : Nat) : VR w ι m (.c (.ptr b o' tot)) (.pointer (some (atA ι b o'))) :=
  .c (.ptr rfl (live_some hl).1 (by rw [(live_some hl).2]; exact Nat.le_refl _) ha fun _ => rfl)

theorem does_fld (he : EnvR w ι m env a) {t : TypeId} {x : Operand} {f : Nat} (ho : o.op = .fieldAddr t x f) {i : I} (ht : trI P (.fieldAddr t x f) = some i) {v : V}
    (hs : stepQ env m i = some v) : Does P w ι m a o v := by
  simp only [trI] at ht
  split at ht
  · rename_i fields hu
    simp only [Option.bind_eq_some_iff] at ht
    obtain ⟨fd, hfd, n, hn, ht⟩ := ht
    split at ht
    · cases ht
    · rename_i hn0
      injection ht with ht; subst ht
      have hx := ev_VR he x
      simp only [stepQ, guard'] at hs
      split at hs
      · rename_i b off tot hp
        simp only [Option.bind_eq_some_iff] at hs
        obtain ⟨blk, hl, hs⟩ := hs
        injection hs with hs; subst hs
        rw [hp] at hx
        refine ⟨_, ptr_in (o := off) hl (hx.pal (live_some hl).1) (off + fd.offset), fun w' hw => ?_⟩
        simp [execOp, ho, hx.ptr hl, Instr.fieldAt, Instr.sureAddr, run_underlying hu, hfd, fieldPlace, run_sizeOf hn, hn0, atA_add]
      · cases hs
  · cases ht

theorem does_ixa (he : EnvR w ι m env a) {t : TypeId} {x y : Operand} (ho : o.op = .indexAddr t x y) {i : I} (ht : trI P (.indexAddr t x y) = some i) {v : V}
    (hs : stepQ env m i = some v) : Does P w ι m a o v := by
  have hx := ev_VR he x
  have hy := ev_VR he y
  simp only [trI] at ht
  split at ht
  · rename_i len elem hu
    simp only [Option.map_eq_some_iff] at ht
    obtain ⟨n, hn, rfl⟩ := ht
    simp only [stepQ, guard'] at hs
    split at hs
    · rename_i b off tot k q hp hq
      simp only [Option.bind_eq_some_iff] at hs
      obtain ⟨blk, hl, hs⟩ := hs
      split at hs
      · rename_i hr
        injection hs with hs; subst hs
        rw [hp] at hx
        rw [hq] at hy
        refine ⟨_, ptr_in (o := off) hl (hx.pal (live_some hl).1) (off + q.toNat * n), fun w' hw => ?_⟩
        simp [execOp, ho, hx.ptr hl, hy.int, Instr.indexAt, asIntOf, Instr.sureAddr, run_underlying hu, run_sizeOf hn, hr, atA_add]
      · cases hs
    · cases hs
  · rename_i elem hu
    simp only [Option.map_eq_some_iff] at ht
    obtain ⟨n, hn, rfl⟩ := ht
    simp only [stepQ, guard'] at hs
    split at hs
    · rename_i b off len tot k q hp hq
      simp only [Option.bind_eq_some_iff] at hs
      obtain ⟨blk, hl, hs⟩ := hs
      split at hs
      · rename_i hr
        injection hs with hs; subst hs
        rw [hp] at hx
        rw [hq] at hy
        obtain ⟨ad, cap, h1, hat, _⟩ := hx.sl hl
        have hat := hat (.inl (by omega))
        subst hat
        refine ⟨_, ptr_in (o := off) hl (hx.sal (live_some hl).1) (off + q.toNat * n), fun w' hw => ?_⟩
        simp [execOp, ho, h1, hy.int, Instr.indexAt, asIntOf, run_underlying hu, run_sizeOf hn, hr, atA_add]
      · cases hs
    · cases hs
  · cases ht

theorem does_ext (he : EnvR w ι m env a) {x : Operand} {k : Nat} (ho : o.op = .extract x k) {v : V}
    (hs : stepQ env m (.ext (trO x) k) = some v) : Does P w ι m a o v := by
  have hx := ev_VR he x
  simp only [stepQ, guard'] at hs
  split at hs
  · rename_i vs hp
    rw [hp] at hx
    generalize hr0 : a.eval x = r0 at hx
    cases hx with
    | one h => cases h
    | tup hl h =>
      obtain ⟨r, h1, h2⟩ := h k v hs
      refine ⟨r, .one h2, fun w' hw => ?_⟩
      simp [execOp, ho, hr0, Instr.extract, h1]
  · cases hs

theorem run_eqGuard (op : BinOp) (t : TypeId) (x y : Operand) (u v : Value) (h : (∃ k n, u = .int k n) ∨ (∃ b, u = .bool b) ∨ (∃ b, u = .string b)) (w : World) : (eqGuard op t x y u v).run P w = .ok () w := by
  unfold eqGuard
  rcases h with ⟨k, n, rfl⟩ | ⟨b, rfl⟩ | ⟨b, rfl⟩ <;> cases op <;> rfl

theorem run_binI {op : BinOp} {k : IntKind} {p q : Int} {v : V} (h : binI op k p q = some v) (t : TypeId) : ∃ r, VR w ι m v r ∧ ∀ w', (binOp op t (.int k p) (.int k q)).run P w' = .ok r w' := by
  unfold binI at h
  cases op <;> simp only [] at h
  case add => injection h with h; subst h; exact ⟨_, .c (.int _ _), fun w' => by simp [binOp, Op.intArith]⟩
  case sub => injection h with h; subst h; exact ⟨_, .c (.int _ _), fun w' => by simp [binOp, Op.intArith]⟩
  case mul => injection h with h; subst h; exact ⟨_, .c (.int _ _), fun w' => by simp [binOp, Op.intArith]⟩
  case quo =>
    split at h
    · cases h
    · rename_i hq
      injection h with h; subst h; exact ⟨_, .c (.int _ _), fun w' => by simp [binOp, Op.intDiv, hq]⟩
  case rem =>
    split at h
    · cases h
    · rename_i hq
      injection h with h; subst h; exact ⟨_, .c (.int _ _), fun w' => by simp [binOp, Op.intDiv, hq]⟩
  case eql => injection h with h; subst h; exact ⟨_, .c (.bool _), fun w' => by simp [binOp, Op.intCmp]⟩
  case neq => injection h with h; subst h; exact ⟨_, .c (.bool _), fun w' => by simp [binOp, Op.intCmp]⟩
  case lss => injection h with h; subst h; exact ⟨_, .c (.bool _), fun w' => by simp [binOp, Op.intCmp]⟩
  case leq => injection h with h; subst h; exact ⟨_, .c (.bool _), fun w' => by simp [binOp, Op.intCmp]⟩
  case gtr => injection h with h; subst h; exact ⟨_, .c (.bool _), fun w' => by simp [binOp, Op.intCmp]⟩
  case geq => injection h with h; subst h; exact ⟨_, .c (.bool _), fun w' => by simp [binOp, Op.intCmp]⟩
  case and => injection h with h; subst h; exact ⟨_, .c (.int _ _), fun w' => by simp [binOp, Op.intBits]⟩
  case or => injection h with h; subst h; exact ⟨_, .c (.int _ _), fun w' => by simp [binOp, Op.intBits]⟩
  case xor => injection h with h; subst h; exact ⟨_, .c (.int _ _), fun w' => by simp [binOp, Op.intBits]⟩
  all_goals cases h

theorem run_binS {op : BinOp} {p q : ByteArray} {v : V} (h : binS op p q = some v) (t : TypeId) : ∃ r, VR w ι m v r ∧ ∀ w', (binOp op t (.string p) (.string q)).run P w' = .ok r w' := by
  unfold binS at h
  cases op <;> simp only [] at h
  case add =>
    split at h
    · rename_i hl
      injection h with h; subst h
      refine ⟨_, .c (.str _), fun w' => ?_⟩
      have h2 : IntKind.i64.max = 9223372036854775807 := by decide
      have hn : ¬ ((p.size + q.size : Nat) : Int) > IntKind.i64.max := by rw [h2]; omega
      simp only [binOp, Op.stringOp, if_neg hn]
      rfl
    · cases h
  case eql => injection h with h; subst h; exact ⟨_, .c (.bool _), fun w' => by simp [binOp, Op.stringOp]⟩
  case neq => injection h with h; subst h; exact ⟨_, .c (.bool _), fun w' => by simp [binOp, Op.stringOp]⟩
  case lss => injection h with h; subst h; exact ⟨_, .c (.bool _), fun w' => by simp [binOp, Op.stringOp]⟩
  all_goals cases h

/-! Two flat values compared. -/
/-- The value of a type, made of these cells. -/
def valOf (P : Program) (t : TypeId) (rs : List Value) : Option Value :=
  match aggT P t, rs with
  | some true, _ => some (.agg rs.toArray)
  | some false, [r] => some r
  | _, _ => none

theorem run_part {t : TypeId} {n : Nat} (hz : szT P t = some n) {rs : List Value} {off : Nat} (hn : off + n ≤ rs.length) {v : Value} (hv : valOf P t ((rs.drop off).take n) = some v) (w : World) :
    (part t rs.toArray off).run P w = .ok v w := by
  unfold valOf at hv
  split at hv
  · rename_i ha
    injection hv with hv; subst hv
    simp only [part, Sem.run_bind, run_isAgg ha, Result.andThen_ok, if_true, run_sizeOf hz, Sem.run_pure]
    congr 2
    apply Array.ext'
    simp [List.extract_eq_take_drop]
  · rename_i r ha hr
    injection hv with hv; subst hv
    have : rs[off]? = some r := by
      have h0 : ((rs.drop off).take n)[0]? = some r := by rw [hr]; rfl
      rw [List.getElem?_take] at h0
      split at h0
      · simpa using h0
      · cases h0
    simp [part, run_isAgg ha, this]
  · cases hv

theorem AR.cut {cs : List C} {rs : List Value} (h : AR w ι m cs rs) (off n : Nat) : AR w ι m ((cs.drop off).take n) ((rs.drop off).take n) := by
  refine ⟨by simp [h.1], fun j c hj => ?_⟩
  rw [List.getElem?_take] at hj ⊢
  split at hj
  · rename_i hl
    rw [if_pos hl]
    rw [List.getElem?_drop] at hj ⊢
    exact h.2 _ c hj
  · cases hj

theorem does_un (he : EnvR w ι m env a) {op : UnOp} {t : TypeId} {x : Operand} (ho : o.op = .unOp op t x) {v : V}
    (hs : stepQ env m (.un op (trO x)) = some v) : Does P w ι m a o v := by
  have hx := ev_VR he x
  simp only [stepQ, guard'] at hs
  generalize hvx : (trO x).ev env = vx at hx hs
  unfold un' at hs
  split at hs
  · rename_i p
    cases op <;> simp at hs
    subst hs
    exact ⟨_, .c (.bool _), fun w' hw => by simp [execOp, ho, hx.bool, Op.unary]⟩
  · rename_i k p
    cases op <;> simp at hs
    subst hs
    exact ⟨_, .c (.int _ _), fun w' hw => by simp [execOp, ho, hx.int, Op.unary, Op.intArith]⟩
  · cases hs
end
end Go.Proofs.Ytkoloapgeilbdaa
