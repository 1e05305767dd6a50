/-
  Running the abstract machine by rewriting, first what is at hand: what follows stands as data, so that nothing is looked at too early.
-/
import Derived.Test.YtkoloapgeilbdaaLay
set_option linter.unusedVariables false
namespace Go.Proofs.Ytkoloapgeilbdaa
variable {call : FuncId → List V → List Blk → Option Ret} {L n0 : Nat}

/-! The parts that wait. -/
def opsC (call : FuncId → List V → List Blk → Option Ret) (n0 : Nat) (d : Option Nat) (r : List IOp) (x : Option (V × St)) : Option St := x.bind fun p => execOps call n0 r (put d p.1 p.2)
def opsG (call : FuncId → List V → List Blk → Option Ret) (n0 : Nat) (t : Nat) (b : Bool) (d : Option Nat) (i : I) (r : List IOp) (st : St) (v : V) : Option St :=
  match v with
  | .c (.bool x) => if x = b then opsC call n0 d r (stepL call n0 { st with env := (t, .c (.bool b)) :: st.env } i) else execOps call n0 r (put d (.c .undef) { st with env := (t, .c (.bool (!b))) :: st.env })
  | .c .undef => execOps call n0 r (put d (.c .undef) st)
  | _ => none
def drwC (call : FuncId → List V → List Blk → Option Ret) (m : List Blk) (d : Nat) (r : List IOp) (env : List (Nat × V)) (x : Option V) : Option (List (Nat × V)) := x.bind fun v => execD call m r ((d, v) :: env)
def drwG (call : FuncId → List V → List Blk → Option Ret) (m : List Blk) (t : Nat) (b : Bool) (d : Nat) (i : I) (r : List IOp) (env : List (Nat × V)) (v : V) : Option (List (Nat × V)) :=
  match v with
  | .c (.bool x) => if x = b then drwC call m d r ((t, .c (.bool b)) :: env) (stepD call ((t, .c (.bool b)) :: env) m i) else execD call m r ((d, .c .undef) :: (t, .c (.bool (!b))) :: env)
  | .c .undef => execD call m r ((d, .c .undef) :: env)
  | _ => none
def quiC (st : St) (x : Option V) : Option (V × St) := x.bind fun v => some (v, st)
def calC (n0 : Nat) (st : St) (x : Option Ret) : Option (V × St) := x.bind fun r => some (r.v, { st with mem := r.mem, esc := mx st.esc r.esc, wr := mx st.wr (r.wr - (st.mem.length - n0)) })
def dalC (m : List Blk) (x : Option Ret) : Option V := x.bind fun r => if r.wr = 0 ∧ r.mem.length = m.length ∧ r.v.hard = true then some r.v else none
def regC (x : Option St) : Option (Ex × St) := x.bind fun st => some (.norm, st)
def rdwC (st : St) (x : Option (List (Nat × V))) : Option (Ex × St) := x.bind fun env => some (.norm, { st with env := env })
def seqC (call : FuncId → List V → List Blk → Option Ret) (L n0 : Nat) (kp : Option (List Nat)) (b : IC) (x : Option (Ex × St)) : Option (Ex × St) := x.bind fun p => match p.1 with
    | .norm => exec call L n0 kp b p.2
    | e => some (e, p.2)
def cndC (call : FuncId → List V → List Blk → Option Ret) (L n0 : Nat) (kp : Option (List Nat)) (a b : IC) (st : St) (v : V) : Option (Ex × St) := v.bool?.bind fun t => if t then exec call L n0 kp a st else exec call L n0 kp b st
def blkC (n0 : Nat) (id : Nat) (ka : Option (List Nat)) (x : Option (Ex × St)) : Option (Ex × St) := x.bind fun p => match p.1 with
    | .exit j => if j = id then some (.norm, trim n0 ka p.2) else some (.exit j, p.2)
    | .norm => some (.norm, trim n0 ka p.2)
    | .ret => some (.ret, p.2)
def runC (n0 : Nat) (res : List IR) (x : Option (Ex × St)) : Option Ret := x.bind fun p => match p.1 with
    | .exit _ => none
    | _ => (resAll p.2 res).bind fun vs => some (fin n0 (resV vs) p.2)
def finC (n0 : Nat) (st : St) (x : Option (List V)) : Option Ret := x.bind fun vs => some (fin n0 (resV vs) st)
def resC1 (r : List V) (x : Option V) : Option (List V) := x.bind fun v => some (v :: r)
def resC (st : St) (l : List IR) (x : Option V) : Option (List V) := x.bind fun v => (resAll st l).bind fun vs => some (v :: vs)
def resD (v : V) (x : Option (List V)) : Option (List V) := x.bind fun vs => some (v :: vs)

/-! How they are entered. -/
theorem k_ops (d : Option Nat) (i : I) (r : List IOp) (st : St) : execOps call n0 (⟨d, none, i⟩ :: r) st = opsC call n0 d r (stepL call n0 st i) := rfl
theorem k_opsg (d : Option Nat) (t : Nat) (b : Bool) (i : I) (r : List IOp) (st : St) : execOps call n0 (⟨d, some (t, b), i⟩ :: r) st = opsG call n0 t b d i r st (get st.env t) := by
  simp only [execOps, want, opsG]
  cases get st.env t with
  | c x => cases x <;> rfl
  | agg l => rfl
  | tup l => rfl
theorem k_nil (st : St) : execOps call n0 [] st = some st := rfl
theorem k_drw (m : List Blk) (d : Nat) (i : I) (r : List IOp) (env : List (Nat × V)) : execD call m (⟨some d, none, i⟩ :: r) env = drwC call m d r env (stepD call env m i) := rfl
theorem k_drwg (m : List Blk) (d : Nat) (t : Nat) (b : Bool) (i : I) (r : List IOp) (env : List (Nat × V)) : execD call m (⟨some d, some (t, b), i⟩ :: r) env = drwG call m t b d i r env (get env t) := by
  simp only [execD, want, drwG]
  cases get env t with
  | c x => cases x <;> rfl
  | agg l => rfl
  | tup l => rfl
theorem k_dnil (m : List Blk) (env : List (Nat × V)) : execD call m [] env = some env := rfl
variable {kp : Option (List Nat)} {st : St}
theorem k_skip : exec call L n0 kp .skip st = some (.norm, st) := rfl
theorem k_reg (ops : List IOp) : exec call L n0 kp (.reg false ops) st = regC (execOps call n0 ops st) := rfl
theorem k_rdw (ops : List IOp) : exec call L n0 kp (.reg true ops) st = rdwC st (execD call st.mem ops st.env) := rfl
theorem k_seq (a b : IC) : exec call L n0 kp (.seq a b) st = seqC call L n0 kp b (exec call L n0 kp a st) := rfl
theorem k_cond (c : Opd) (a b : IC) : exec call L n0 kp (.cond c a b) st = cndC call L n0 kp a b st (c.ev st.env) := rfl
theorem k_block (id : Nat) (kq ka : Option (List Nat)) (b : IC) : exec call L n0 kp (.block id kq ka b) st = blkC n0 id ka (exec call L n0 kq b st) := rfl
theorem k_loop (b : IC) : exec call L n0 kp (.loop b) st = iter (fun s => exec call L n0 none b s) (trim n0 kp) L st := rfl
theorem k_exit (id : Nat) : exec call L n0 kp (.exit id) st = some (.exit id, st) := rfl
theorem k_ret (ks : Option (List Nat)) : exec call L n0 kp (.ret ks) st = some (.ret, trim n0 ks st) := rfl
theorem k_run (nt : Nat) (res : List IR) (body : IC) (args : List V) (m : List Blk) : runF call L ⟨nt, res, body⟩ args m = guard' (args.length ≤ nt) (runC m.length res (exec call L m.length none body ⟨number 0 args, m, 0, 0⟩)) := by
  unfold runF guard' runC
  split <;> rfl

/-! How they go on. -/
theorem c_ops (d : Nat) (r : List IOp) (v : V) (env : List (Nat × V)) (m : List Blk) (e : Nat) (w : Nat) : opsC call n0 (some d) r (some (v, ⟨env, m, e, w⟩)) = execOps call n0 r ⟨(d, v) :: env, m, e, w⟩ := rfl
theorem c_ops0 (r : List IOp) (v : V) (st : St) : opsC call n0 none r (some (v, st)) = execOps call n0 r st := rfl
theorem c_opsn (d : Option Nat) (r : List IOp) : opsC call n0 d r none = none := rfl
theorem c_opsi (d : Option Nat) (r : List IOp) (c : Prop) [Decidable c] (x y : Option (V × St)) : opsC call n0 d r (if c then x else y) = if c then opsC call n0 d r x else opsC call n0 d r y := by split <;> rfl
theorem c_opsg_tt (t : Nat) (d : Option Nat) (i : I) (r : List IOp) (env : List (Nat × V)) (m : List Blk) (e : Nat) (w : Nat) : opsG call n0 t true d i r ⟨env, m, e, w⟩ (.c (.bool true)) = opsC call n0 d r (stepL call n0 ⟨(t, .c (.bool true)) :: env, m, e, w⟩ i) := rfl
theorem c_opsg_ff (t : Nat) (d : Option Nat) (i : I) (r : List IOp) (env : List (Nat × V)) (m : List Blk) (e : Nat) (w : Nat) : opsG call n0 t false d i r ⟨env, m, e, w⟩ (.c (.bool false)) = opsC call n0 d r (stepL call n0 ⟨(t, .c (.bool false)) :: env, m, e, w⟩ i) := rfl
theorem c_opsg_tf (t : Nat) (d : Nat) (i : I) (r : List IOp) (env : List (Nat × V)) (m : List Blk) (e : Nat) (w : Nat) : opsG call n0 t true (some d) i r ⟨env, m, e, w⟩ (.c (.bool false)) = execOps call n0 r ⟨(d, .c .undef) :: (t, .c (.bool false)) :: env, m, e, w⟩ := rfl
theorem c_opsg_ft (t : Nat) (d : Nat) (i : I) (r : List IOp) (env : List (Nat × V)) (m : List Blk) (e : Nat) (w : Nat) : opsG call n0 t false (some d) i r ⟨env, m, e, w⟩ (.c (.bool true)) = execOps call n0 r ⟨(d, .c .undef) :: (t, .c (.bool true)) :: env, m, e, w⟩ := rfl
theorem c_opsg_tf0 (t : Nat) (i : I) (r : List IOp) (env : List (Nat × V)) (m : List Blk) (e : Nat) (w : Nat) : opsG call n0 t true none i r ⟨env, m, e, w⟩ (.c (.bool false)) = execOps call n0 r ⟨(t, .c (.bool false)) :: env, m, e, w⟩ := rfl
theorem c_opsg_ft0 (t : Nat) (i : I) (r : List IOp) (env : List (Nat × V)) (m : List Blk) (e : Nat) (w : Nat) : opsG call n0 t false none i r ⟨env, m, e, w⟩ (.c (.bool true)) = execOps call n0 r ⟨(t, .c (.bool true)) :: env, m, e, w⟩ := rfl
theorem c_opsg_u (t : Nat) (b : Bool) (d : Nat) (i : I) (r : List IOp) (env : List (Nat × V)) (m : List Blk) (e : Nat) (w : Nat) : opsG call n0 t b (some d) i r ⟨env, m, e, w⟩ (.c .undef) = execOps call n0 r ⟨(d, .c .undef) :: env, m, e, w⟩ := rfl
theorem c_opsg_u0 (t : Nat) (b : Bool) (i : I) (r : List IOp) (st : St) : opsG call n0 t b none i r st (.c .undef) = execOps call n0 r st := rfl
theorem c_drw (m : List Blk) (d : Nat) (r : List IOp) (env : List (Nat × V)) (v : V) : drwC call m d r env (some v) = execD call m r ((d, v) :: env) := rfl
theorem c_drwn (m : List Blk) (d : Nat) (r : List IOp) (env : List (Nat × V)) : drwC call m d r env none = none := rfl
theorem c_drwg_tt (m : List Blk) (t : Nat) (d : Nat) (i : I) (r : List IOp) (env : List (Nat × V)) : drwG call m t true d i r env (.c (.bool true)) = drwC call m d r ((t, .c (.bool true)) :: env) (stepD call ((t, .c (.bool true)) :: env) m i) := rfl
theorem c_drwg_ff (m : List Blk) (t : Nat) (d : Nat) (i : I) (r : List IOp) (env : List (Nat × V)) : drwG call m t false d i r env (.c (.bool false)) = drwC call m d r ((t, .c (.bool false)) :: env) (stepD call ((t, .c (.bool false)) :: env) m i) := rfl
theorem c_drwg_tf (m : List Blk) (t : Nat) (d : Nat) (i : I) (r : List IOp) (env : List (Nat × V)) : drwG call m t true d i r env (.c (.bool false)) = execD call m r ((d, .c .undef) :: (t, .c (.bool false)) :: env) := rfl
theorem c_drwg_ft (m : List Blk) (t : Nat) (d : Nat) (i : I) (r : List IOp) (env : List (Nat × V)) : drwG call m t false d i r env (.c (.bool true)) = execD call m r ((d, .c .undef) :: (t, .c (.bool true)) :: env) := rfl
theorem c_drwg_u (m : List Blk) (t : Nat) (b : Bool) (d : Nat) (i : I) (r : List IOp) (env : List (Nat × V)) : drwG call m t b d i r env (.c .undef) = execD call m r ((d, .c .undef) :: env) := rfl
theorem c_qui (st : St) (v : V) : quiC st (some v) = some (v, st) := rfl
theorem c_quin (st : St) : quiC st none = none := rfl
theorem c_quii (st : St) (c : Prop) [Decidable c] (x y : Option V) : quiC st (if c then x else y) = if c then quiC st x else quiC st y := by split <;> rfl
theorem c_cal (env : List (Nat × V)) (m : List Blk) (e : Nat) (w : Nat) (v : V) (m' : List Blk) : calC n0 ⟨env, m, e, w⟩ (some ⟨v, m', 0, 0⟩) = some (v, ⟨env, m', e, w⟩) := by
  simp [calC, mx_eq]
theorem c_cal2 (env : List (Nat × V)) (m : List Blk) (e : Nat) (w : Nat) (v : V) (m' : List Blk) (e' w' : Nat) : calC n0 ⟨env, m, e, w⟩ (some ⟨v, m', e', w'⟩) = some (v, ⟨env, m', mx e e', mx w (w' - (m.length - n0))⟩) := rfl
theorem c_dal (m : List Blk) (v : V) (m' : List Blk) (e : Nat) : dalC m (some ⟨v, m', e, 0⟩) = guard' (m'.length = m.length ∧ v.hard = true) (some v) := by simp [dalC, guard']
theorem c_reg (st : St) : regC (some st) = some (.norm, st) := rfl
theorem c_regn : regC none = none := rfl
theorem c_regi (c : Prop) [Decidable c] (x y : Option St) : regC (if c then x else y) = if c then regC x else regC y := by split <;> rfl
theorem c_rdw (env env' : List (Nat × V)) (m : List Blk) (e : Nat) (w : Nat) : rdwC ⟨env, m, e, w⟩ (some env') = some (.norm, ⟨env', m, e, w⟩) := rfl
theorem c_seq (b : IC) : seqC call L n0 kp b (some (.norm, st)) = exec call L n0 kp b st := rfl
theorem c_seqx (b : IC) (j : Nat) : seqC call L n0 kp b (some (.exit j, st)) = some (.exit j, st) := rfl
theorem c_seqr (b : IC) : seqC call L n0 kp b (some (.ret, st)) = some (.ret, st) := rfl
theorem c_seqn (b : IC) : seqC call L n0 kp b none = none := rfl
theorem c_seqi (b : IC) (c : Prop) [Decidable c] (x y : Option (Ex × St)) : seqC call L n0 kp b (if c then x else y) = if c then seqC call L n0 kp b x else seqC call L n0 kp b y := by split <;> rfl
theorem c_cndt (a b : IC) : cndC call L n0 kp a b st (.c (.bool true)) = exec call L n0 kp a st := rfl
theorem c_cndf (a b : IC) : cndC call L n0 kp a b st (.c (.bool false)) = exec call L n0 kp b st := rfl
theorem c_cndd (a b : IC) (c : Prop) [Decidable c] : cndC call L n0 kp a b st (.c (.bool (decide c))) = if c then exec call L n0 kp a st else exec call L n0 kp b st := by
  by_cases h : c <;> simp [cndC, V.bool?, h]
theorem c_cndn (a b : IC) (x : Bool) : cndC call L n0 kp a b st (.c (.bool (!x))) = cndC call L n0 kp b a st (.c (.bool x)) := by cases x <;> rfl
theorem c_opsg_d (t : Nat) (b : Bool) (d : Option Nat) (i : I) (r : List IOp) (c : Prop) [Decidable c] : opsG call n0 t b d i r st (.c (.bool (decide c))) = if c then opsG call n0 t b d i r st (.c (.bool true)) else opsG call n0 t b d i r st (.c (.bool false)) := by
  by_cases h : c <;> simp [h]
theorem c_drwg_d (m : List Blk) (t : Nat) (b : Bool) (d : Nat) (i : I) (r : List IOp) (env : List (Nat × V)) (c : Prop) [Decidable c] : drwG call m t b d i r env (.c (.bool (decide c))) = if c then drwG call m t b d i r env (.c (.bool true)) else drwG call m t b d i r env (.c (.bool false)) := by
  by_cases h : c <;> simp [h]
theorem c_drwi (m : List Blk) (d : Nat) (r : List IOp) (env : List (Nat × V)) (c : Prop) [Decidable c] (x y : Option V) : drwC call m d r env (if c then x else y) = if c then drwC call m d r env x else drwC call m d r env y := by split <;> rfl
theorem c_rdwi (c : Prop) [Decidable c] (x y : Option (List (Nat × V))) : rdwC st (if c then x else y) = if c then rdwC st x else rdwC st y := by split <;> rfl
theorem c_beq (a b : Int) : (a == b) = decide (a = b) := rfl
theorem c_bne (a b : Int) : (a != b) = !decide (a = b) := rfl
theorem c_blk (id : Nat) (ka : Option (List Nat)) : blkC n0 id ka (some (.norm, st)) = some (.norm, trim n0 ka st) := rfl
theorem c_blkx (id : Nat) (ka : Option (List Nat)) : blkC n0 id ka (some (.exit id, st)) = some (.norm, trim n0 ka st) := by simp [blkC]
theorem c_blky (id j : Nat) (ka : Option (List Nat)) (h : j ≠ id) : blkC n0 id ka (some (.exit j, st)) = some (.exit j, st) := by simp [blkC, h]
theorem c_blkr (id : Nat) (ka : Option (List Nat)) : blkC n0 id ka (some (.ret, st)) = some (.ret, st) := rfl
theorem c_blkn (id : Nat) (ka : Option (List Nat)) : blkC n0 id ka none = none := rfl
theorem c_blki (id : Nat) (ka : Option (List Nat)) (c : Prop) [Decidable c] (x y : Option (Ex × St)) : blkC n0 id ka (if c then x else y) = if c then blkC n0 id ka x else blkC n0 id ka y := by split <;> rfl
theorem c_runr (res : List IR) : runC n0 res (some (.ret, st)) = finC n0 st (resAll st res) := rfl
theorem c_runn (res : List IR) : runC n0 res (some (.norm, st)) = finC n0 st (resAll st res) := rfl
theorem c_run0 (res : List IR) : runC n0 res none = none := rfl
theorem c_runi (res : List IR) (c : Prop) [Decidable c] (x y : Option (Ex × St)) : runC n0 res (if c then x else y) = if c then runC n0 res x else runC n0 res y := by split <;> rfl
theorem c_fin (vs : List V) : finC n0 st (some vs) = some (fin n0 (resV vs) st) := rfl
theorem k_res (r : IR) (l : List IR) : resAll st (r :: l) = resC st l (res1 st r) := rfl
theorem k_res0 : resAll st [] = some [] := rfl
theorem c_res (l : List IR) (v : V) : resC st l (some v) = resD v (resAll st l) := rfl
theorem c_resd (v : V) (vs : List V) : resD v (some vs) = some (v :: vs) := rfl
/-! One step. -/
theorem q_call (f : FuncId) (args : List Opd) : stepL call n0 st (.call f args) = calC n0 st (call f (args.map (·.ev st.env)) st.mem) := rfl
def cavC (n0 : Nat) (call : FuncId → List V → List Blk → Option Ret) (st : St) (args : List Opd) (x : V) : Option (V × St) := match x with
  | .c (.fn f) => calC n0 st (call f (args.map (·.ev st.env)) st.mem)
  | .c (.clo f ns) => calC n0 st (call f (args.map (·.ev st.env) ++ capV ns) st.mem)
  | .c (.clp f b off tot) => calC n0 st (call f (args.map (·.ev st.env) ++ [.c (.ptr b off tot)]) st.mem)
  | _ => none
theorem q_callv (x : Opd) (args : List Opd) : stepL call n0 st (.callv x args) = cavC n0 call st args (x.ev st.env) := by
  simp only [stepL, cavC]
  cases x.ev st.env with
  | c y => cases y <;> rfl
  | agg l => rfl
  | tup l => rfl
theorem c_cav (args : List Opd) (f : FuncId) : cavC n0 call st args (.c (.fn f)) = calC n0 st (call f (args.map (·.ev st.env)) st.mem) := rfl
theorem c_cavc (args : List Opd) (f : FuncId) (ns : List (IntKind × Int)) : cavC n0 call st args (.c (.clo f ns)) = calC n0 st (call f (args.map (·.ev st.env) ++ capV ns) st.mem) := rfl
theorem c_cavp (args : List Opd) (f : FuncId) (b off tot : Nat) : cavC n0 call st args (.c (.clp f b off tot)) = calC n0 st (call f (args.map (·.ev st.env) ++ [.c (.ptr b off tot)]) st.mem) := rfl
def clrC (st : St) (n0 : Nat) (z : C) : V → Option (V × St)
  | .c .nils => some (.c .undef, st)
  | .c (.sl b off n tot) => (live st.mem b tot).bind fun _ => if n = 0 then some (.c .undef, st) else (wrt st n0 b off tot (rep n [z])).bind fun st' => some (.c .undef, st')
  | _ => none
theorem q_clr (x : Opd) (z : C) : stepL call n0 st (.clr x z) = clrC st n0 z (x.ev st.env) := by
  simp only [stepL, clrC]
  cases x.ev st.env with
  | c y => cases y <;> rfl
  | agg l => rfl
  | tup l => rfl
theorem c_clr0 (z : C) : clrC st n0 z (.c .nils) = some (.c .undef, st) := rfl
def clrB (st : St) (n0 b off n tot : Nat) (z : C) (x : Option Blk) : Option (V × St) := x.bind fun blk => if n = 0 then some (.c .undef, st) else guard' (blk.own = true ∧ off + n ≤ blk.cs.length)
    (some (.c .undef, { st with mem := st.mem.set b { blk with cs := lay blk.cs off (rep n [z]) }, esc := mx st.esc (refsL (rep n [z])), wr := mx st.wr (n0 - b) }))
theorem c_clr (z : C) (b off n tot : Nat) : clrC st n0 z (.c (.sl b off n tot)) = clrB st n0 b off n tot z (live st.mem b tot) := by
  simp only [clrC, clrB, wrt]
  cases live st.mem b tot with
  | none => rfl
  | some blk =>
    simp only [Option.bind_some, rep_flat, List.length_replicate]
    split
    · rfl
    · unfold guard'
      split <;> rfl
theorem c_clrB (env : List (Nat × V)) (m : List Blk) (e w b off n tot : Nat) (z : C) (cs : List C) (ty es : Nat) : clrB ⟨env, m, e, w⟩ n0 b off n tot z (some ⟨cs, ty, es, true⟩) = if n = 0 then some (.c .undef, ⟨env, m, e, w⟩) else guard' (off + n ≤ cs.length)
    (some (.c .undef, ⟨env, m.set b ⟨lay cs off (List.replicate n z), ty, es, true⟩, mx e (refsL (List.replicate n z)), mx w (n0 - b)⟩)) := by
  simp only [clrB, Option.bind_some, true_and, rep_flat]
theorem q_mkc (f : FuncId) (l : List Opd) : stepL call n0 st (.mkc f l) = quiC st (stepQ st.env st.mem (.mkc f l)) := rfl
theorem d_mkc (f : FuncId) (l : List Opd) (env : List (Nat × V)) (m : List Blk) : stepD call env m (.mkc f l) = stepQ env m (.mkc f l) := rfl
theorem s_mkc (f : FuncId) (l : List Opd) (env : List (Nat × V)) (m : List Blk) : stepQ env m (.mkc f l) = mkcV f (l.map (·.ev env)) := rfl
theorem c_mkcp (f : FuncId) (b off tot : Nat) : mkcV f [.c (.ptr b off tot)] = some (.c (.clp f b off tot)) := rfl
theorem c_mkc0 (f : FuncId) : mkcV f [] = some (.c (.clo f [])) := rfl
theorem c_mkcs (f : FuncId) (k : IntKind) (n : Int) (r : List V) : mkcV f (.c (.int k n) :: r) = (capt (.c (.int k n) :: r)).bind fun ns => some (.c (.clo f ns)) := by
  unfold mkcV
  split
  · rename_i h; cases h
  · rfl
theorem capt_0 : capt [] = some [] := rfl
theorem capt_s (k : IntKind) (n : Int) (r : List V) : capt (.c (.int k n) :: r) = (capt r).bind fun l => some ((k, n) :: l) := rfl
theorem capV_0 : capV [] = [] := rfl
theorem capV_s (p : IntKind × Int) (r : List (IntKind × Int)) : capV (p :: r) = .c (.int p.1 p.2) :: capV r := rfl
theorem q_mov (x : Opd) : stepL call n0 st (.mov x) = some (x.ev st.env, st) := rfl
theorem q_pick (c a b : Opd) : stepL call n0 st (.pick c a b) = quiC st (stepQ st.env st.mem (.pick c a b)) := rfl
theorem q_load1 (a : Opd) : stepL call n0 st (.load1 a) = quiC st (stepQ st.env st.mem (.load1 a)) := rfl
theorem q_loadN (a : Opd) (n : Nat) : stepL call n0 st (.loadN a n) = quiC st (stepQ st.env st.mem (.loadN a n)) := rfl
theorem q_fld (a : Opd) (o : Nat) : stepL call n0 st (.fld a o) = quiC st (stepQ st.env st.mem (.fld a o)) := rfl
theorem q_ixa (a i : Opd) (n s : Nat) : stepL call n0 st (.ixa a i n s) = quiC st (stepQ st.env st.mem (.ixa a i n s)) := rfl
theorem q_ixs (a i : Opd) (s : Nat) : stepL call n0 st (.ixs a i s) = quiC st (stepQ st.env st.mem (.ixs a i s)) := rfl
theorem q_ext (a : Opd) (o : Nat) : stepL call n0 st (.ext a o) = quiC st (stepQ st.env st.mem (.ext a o)) := rfl
theorem q_bin (op : BinOp) (x y : Opd) : stepL call n0 st (.bin op x y) = quiC st (bin' op (x.ev st.env) (y.ev st.env)) := rfl
theorem q_binb (ne : Bool) (x y : Opd) : stepL call n0 st (.binb ne x y) = quiC st (stepQ st.env st.mem (.binb ne x y)) := rfl
theorem q_bins (op : BinOp) (x y : Opd) : stepL call n0 st (.bins op x y) = quiC st (stepQ st.env st.mem (.bins op x y)) := rfl
theorem q_un (op : UnOp) (x : Opd) : stepL call n0 st (.un op x) = quiC st (un' op (x.ev st.env)) := rfl
theorem q_eqa (ne : Bool) (ks : List (Option IntKind)) (x y : Opd) : stepL call n0 st (.eqa ne ks x y) = quiC st (stepQ st.env st.mem (.eqa ne ks x y)) := rfl
theorem q_len (x : Opd) : stepL call n0 st (.len x) = quiC st (stepQ st.env st.mem (.len x)) := rfl
theorem q_lens (x : Opd) : stepL call n0 st (.lens x) = quiC st (stepQ st.env st.mem (.lens x)) := rfl
theorem q_sla (a : Opd) (n e : Nat) (lo hi : Option Opd) : stepL call n0 st (.sla a n e lo hi) = quiC st (stepQ st.env st.mem (.sla a n e lo hi)) := rfl
theorem q_sls (a : Opd) (e : Nat) (lo hi : Option Opd) : stepL call n0 st (.sls a e lo hi) = quiC st (stepQ st.env st.mem (.sls a e lo hi)) := rfl
theorem q_bld (z : List C) (ps : List (Nat × Nat × Opd)) : stepL call n0 st (.bld z ps) = quiC st (stepQ st.env st.mem (.bld z ps)) := rfl
def stoC (n0 : Nat) (st : St) (a : V) (n : Nat) (x : Option (List C)) : Option (V × St) := x.bind fun cs => match a with
    | .c (.ptr b off tot) => guard' (cs.length = n) ((wrt st n0 b off tot cs).bind fun st' => some (.c .undef, st'))
    | _ => none
theorem q_store (a x : Opd) (n : Nat) : stepL call n0 st (.store a x n) = stoC n0 st (a.ev st.env) n (x.ev st.env).cells? := by
  simp only [stepL, stoC]
  cases a.ev st.env with
  | c y => cases y <;> cases (x.ev st.env).cells? <;> rfl
  | agg l => cases (x.ev st.env).cells? <;> rfl
  | tup l => cases (x.ev st.env).cells? <;> rfl
def wriC (st : St) (n0 b off : Nat) (cs : List C) (x : Option Blk) : Option (V × St) := x.bind fun blk => guard' (blk.own = true ∧ off + cs.length ≤ blk.cs.length)
    (some (.c .undef, { st with mem := st.mem.set b { blk with cs := lay blk.cs off cs }, esc := mx st.esc (refsL cs), wr := mx st.wr (n0 - b) }))
theorem c_sto (b off tot n : Nat) (cs : List C) : stoC n0 st (.c (.ptr b off tot)) n (some cs) = guard' (cs.length = n) (wriC st n0 b off cs (live st.mem b tot)) := by
  simp only [stoC, Option.bind_some, wrt, wriC]
  congr 1
  cases live st.mem b tot with
  | none => rfl
  | some blk =>
    simp only [Option.bind_some, guard']
    split <;> rfl
theorem c_wri (env : List (Nat × V)) (m : List Blk) (e : Nat) (w : Nat) (b off : Nat) (cs cs' : List C) (ty es : Nat) : wriC ⟨env, m, e, w⟩ n0 b off cs' (some ⟨cs, ty, es, true⟩) = guard' (off + cs'.length ≤ cs.length) (some (.c .undef, ⟨env, m.set b ⟨lay cs off cs', ty, es, true⟩, mx e (refsL cs'), mx w (n0 - b)⟩)) := by
  simp [wriC]
theorem q_alloc (z : List C) (ty : TypeId) (env : List (Nat × V)) (m : List Blk) (e : Nat) (w : Nat) : stepL call n0 ⟨env, m, e, w⟩ (.alloc z ty) = some (.c (.ptr m.length 0 z.length), ⟨env, m ++ [⟨z, ty, 0, true⟩], mx e (refsL z), w⟩) := rfl
def boxC (st : St) (ty : TypeId) (x : Option (List C)) : Option (V × St) := x.bind fun z => some (.c (.ptr st.mem.length 0 z.length), { st with mem := st.mem ++ [⟨z, ty, 0, true⟩], esc := mx st.esc (refsL z) })
theorem q_box (x : Opd) (ty : TypeId) : stepL call n0 st (.box x ty) = boxC st ty (x.ev st.env).cells? := rfl
theorem c_box (z : List C) (ty : TypeId) (env : List (Nat × V)) (m : List Blk) (e : Nat) (w : Nat) : boxC ⟨env, m, e, w⟩ ty (some z) = some (.c (.ptr m.length 0 z.length), ⟨env, m ++ [⟨z, ty, 0, true⟩], mx e (refsL z), w⟩) := rfl
theorem q_mks (n : Opd) (z : List C) (ty : TypeId) (bytes : Nat) (env : List (Nat × V)) (m : List Blk) (e : Nat) (w : Nat) : stepL call n0 ⟨env, m, e, w⟩ (.mks n z ty bytes) = (n.ev env).int?.bind fun l => guard' (0 ≤ l ∧ l * bytes ≤ 140737488355328 ∧ 0 < bytes ∧ 0 < z.length)
      (some (.c (.sl m.length 0 l.toNat (l.toNat * z.length)), ⟨env, m ++ [⟨rep l.toNat z, ty, z.length, true⟩], mx e (refsL z), w⟩)) := rfl
def litC (st : St) (n esz : Nat) (ty : TypeId) (x : Option (List C)) : Option (V × St) := x.bind fun cs => guard' (cs.length = n * esz) (some (.c (.sl st.mem.length 0 n (n * esz)), { st with mem := st.mem ++ [⟨cs, ty, esz, true⟩], esc := mx st.esc (refsL cs) }))
theorem q_lit (n esz : Nat) (z : List C) (ps : List (Nat × Opd)) (ty : TypeId) : stepL call n0 st (.lit n esz z ps ty) = guard' (n * esz ≤ 16777216 ∧ z.length = esz ∧ 0 < esz) (litC st n esz ty (layAll st.env (rep n z) (ps.map fun (i, x) => (i * esz, esz, x)))) := rfl
theorem c_lit (n esz : Nat) (ty : TypeId) (cs : List C) (env : List (Nat × V)) (m : List Blk) (e : Nat) (w : Nat) : litC ⟨env, m, e, w⟩ n esz ty (some cs) = guard' (cs.length = n * esz) (some (.c (.sl m.length 0 n (n * esz)), ⟨env, m ++ [⟨cs, ty, esz, true⟩], mx e (refsL cs), w⟩)) := rfl
def appC (st : St) (n0 : Nat) (ty : TypeId) (esz bytes : Nat) (s : V) (x : Option (Nat × List C)) : Option (V × St) := x.bind fun p => match s with
    | .c .nils => if p.1 = 0 then some (.c .nils, st) else guard' (p.1 * bytes ≤ 140737488355328 ∧ 0 < esz ∧ 0 < bytes)
        (some (.c (.sl st.mem.length 0 p.1 (p.1 * esz)), { st with mem := st.mem ++ [⟨p.2, ty, esz, true⟩], esc := mx st.esc (refsL p.2) }))
    | .c (.sl b off len tot) => (live st.mem b tot).bind fun blk => guard' (blk.own = true ∧ blk.esz = esz ∧ 0 < esz ∧ blk.ty = ty ∧ off = 0 ∧ tot = len * esz ∧ (len + p.1) * bytes ≤ 140737488355328 ∧ 0 < bytes)
        (some (.c (.sl b 0 (len + p.1) (tot + p.1 * esz)), { st with mem := st.mem.set b { blk with cs := blk.cs ++ p.2 }, esc := mx st.esc (refsL p.2), wr := mx st.wr (n0 - b) }))
    | _ => none
theorem q_app (s x : Opd) (ty : TypeId) (esz bytes : Nat) : stepL call n0 st (.app s x ty esz bytes) = appC st n0 ty esz bytes (s.ev st.env) (src st.env st.mem esz x) := rfl
def appB (st : St) (n0 : Nat) (ty : TypeId) (esz bytes : Nat) (b len tot n : Nat) (cs : List C) (x : Option Blk) : Option (V × St) := x.bind fun blk => guard' (blk.own = true ∧ blk.esz = esz ∧ 0 < esz ∧ blk.ty = ty ∧ tot = len * esz ∧ (len + n) * bytes ≤ 140737488355328 ∧ 0 < bytes)
        (some (.c (.sl b 0 (len + n) (tot + n * esz)), { st with mem := st.mem.set b { blk with cs := blk.cs ++ cs }, esc := mx st.esc (refsL cs), wr := mx st.wr (n0 - b) }))
theorem c_app (ty : TypeId) (esz bytes b len tot n : Nat) (cs : List C) : appC st n0 ty esz bytes (.c (.sl b 0 len tot)) (some (n, cs)) = appB st n0 ty esz bytes b len tot n cs (live st.mem b tot) := by
  simp [appC, appB]
theorem c_appn (ty : TypeId) (esz bytes n : Nat) (cs : List C) (env : List (Nat × V)) (m : List Blk) (e : Nat) (w : Nat) : appC ⟨env, m, e, w⟩ n0 ty esz bytes (.c .nils) (some (n, cs)) = if n = 0 then some (.c .nils, ⟨env, m, e, w⟩) else guard' (n * bytes ≤ 140737488355328 ∧ 0 < esz ∧ 0 < bytes) (some (.c (.sl m.length 0 n (n * esz)), ⟨env, m ++ [⟨cs, ty, esz, true⟩], mx e (refsL cs), w⟩)) := rfl
theorem c_appB (env : List (Nat × V)) (m : List Blk) (e : Nat) (w : Nat) (ty : TypeId) (esz bytes b len tot n : Nat) (cs cs' : List C) : appB ⟨env, m, e, w⟩ n0 ty esz bytes b len tot n cs' (some ⟨cs, ty, esz, true⟩) =
    guard' (0 < esz ∧ tot = len * esz ∧ (len + n) * bytes ≤ 140737488355328 ∧ 0 < bytes) (some (.c (.sl b 0 (len + n) (tot + n * esz)), ⟨env, m.set b ⟨cs ++ cs', ty, esz, true⟩, mx e (refsL cs'), mx w (n0 - b)⟩)) := by
  simp [appB]
/-! Reads by value. -/
theorem s_mov (x : Opd) (env : List (Nat × V)) (m : List Blk) : stepQ env m (.mov x) = (some (x.ev env)) := rfl
theorem s_pick (c : Opd) (a : Opd) (b : Opd) (env : List (Nat × V)) (m : List Blk) : stepQ env m (.pick c a b) = ((c.ev env).bool?.bind fun t => some (if t then a.ev env else b.ev env)) := rfl
theorem s_loadN (a : Opd) (n : Nat) (env : List (Nat × V)) (m : List Blk) : stepQ env m (.loadN a n) = (match a.ev env with
    | .c (.ptr b off tot) => (live m b tot).bind fun blk => guard' (off + n ≤ blk.cs.length) (some (.agg ((blk.cs.drop off).take n)))
    | _ => none) := rfl
theorem s_fld (a : Opd) (off : Nat) (env : List (Nat × V)) (m : List Blk) : stepQ env m (.fld a off) = (match a.ev env with
    | .c (.ptr b o tot) => (live m b tot).bind fun _ => some (.c (.ptr b (o + off) tot))
    | _ => none) := rfl
theorem s_ixa (a : Opd) (i : Opd) (len : Nat) (esz : Nat) (env : List (Nat × V)) (m : List Blk) : stepQ env m (.ixa a i len esz) = (match a.ev env, i.ev env with
    | .c (.ptr b o tot), .c (.int _ n) => (live m b tot).bind fun _ => guard' (0 ≤ n ∧ n < len) (some (.c (.ptr b (o + n.toNat * esz) tot)))
    | _, _ => none) := rfl
theorem s_ext (x : Opd) (k : Nat) (env : List (Nat × V)) (m : List Blk) : stepQ env m (.ext x k) = (match x.ev env with
    | .tup vs => vs[k]?
    | _ => none) := rfl
theorem s_bin (op : BinOp) (x : Opd) (y : Opd) (env : List (Nat × V)) (m : List Blk) : stepQ env m (.bin op x y) = (bin' op (x.ev env) (y.ev env)) := rfl
theorem s_binb (ne : Bool) (x : Opd) (y : Opd) (env : List (Nat × V)) (m : List Blk) : stepQ env m (.binb ne x y) = (match x.ev env, y.ev env with
    | .c (.bool a), .c (.bool b) => some (.c (.bool (if ne then !(a == b) else a == b)))
    | _, _ => none) := rfl
theorem s_bins (op : BinOp) (x : Opd) (y : Opd) (env : List (Nat × V)) (m : List Blk) : stepQ env m (.bins op x y) = (match x.ev env, y.ev env with
    | .c (.str a), .c (.str b) => binS op a b
    | _, _ => none) := rfl
theorem s_un (op : UnOp) (x : Opd) (env : List (Nat × V)) (m : List Blk) : stepQ env m (.un op x) = (un' op (x.ev env)) := rfl
theorem s_eqa (ne : Bool) (ks : List (Option IntKind)) (x : Opd) (y : Opd) (env : List (Nat × V)) (m : List Blk) : stepQ env m (.eqa ne ks x y) = (match x.ev env, y.ev env with
    | .agg a, .agg b => (eqL ks a b).bind fun t => some (.c (.bool (if ne then !t else t)))
    | _, _ => none) := rfl
theorem s_nil (ne : Bool) (x : Opd) (env : List (Nat × V)) (m : List Blk) : stepQ env m (.nil ne x) = (match x.ev env with
    | .c .nils => some (.c (.bool (!ne)))
    | .c (.sl b _ _ tot) => (live m b tot).bind fun _ => some (.c (.bool ne))
    | _ => none) := rfl
theorem s_lens (x : Opd) (env : List (Nat × V)) (m : List Blk) : stepQ env m (.lens x) = (match x.ev env with
    | .c (.str s) => some (.c (.int .i64 s.size))
    | _ => none) := rfl
theorem s_sla (a : Opd) (n : Nat) (esz : Nat) (lo : Option Opd) (hi : Option Opd) (env : List (Nat × V)) (m : List Blk) : stepQ env m (.sla a n esz lo hi) = (match a.ev env with
    | .c (.ptr b o tot) => (live m b tot).bind fun blk => guard' (blk.esz = 0 ∧ n ≤ 4294967296) ((lo' env lo).bind fun l => (hi' env n hi).bind fun h => guard' (0 ≤ l ∧ l ≤ h ∧ h ≤ n ∧ l < n) (some (.c (.sl b (o + l.toNat * esz) (h - l).toNat tot))))
    | _ => none) := rfl
theorem s_sls (s : Opd) (esz : Nat) (lo : Option Opd) (hi : Option Opd) (env : List (Nat × V)) (m : List Blk) : stepQ env m (.sls s esz lo hi) = (match s.ev env with
    | .c (.sl b o len tot) => (live m b tot).bind fun blk => guard' (blk.esz = 0 ∨ esz = blk.esz) ((lo' env lo).bind fun l => (hi' env len hi).bind fun h => guard' (0 ≤ l ∧ l ≤ h ∧ h ≤ len) (some (.c (.sl b (o + l.toNat * esz) (h - l).toNat tot))))
    | .c .nils => (lo' env lo).bind fun l => (hi' env 0 hi).bind fun h => guard' (l = 0 ∧ h = 0) (some (.c .nils))
    | _ => none) := rfl
theorem s_bld (z : List C) (ps : List (Nat × Nat × Opd)) (env : List (Nat × V)) (m : List Blk) : stepQ env m (.bld z ps) = ((layAll env z ps).bind fun cs => some (.agg cs)) := rfl
theorem s_prt (x : Opd) (off : Nat) (n : Nat) (ag : Bool) (env : List (Nat × V)) (m : List Blk) : stepQ env m (.prt x off n ag) = (match x.ev env with
    | .agg cs => if off + n ≤ cs.length then (if ag then some (.agg ((cs.drop off).take n)) else (cs[off]?).bind fun c => some (.c c)) else none
    | _ => none) := rfl
theorem s_idxs (x : Opd) (i : Opd) (env : List (Nat × V)) (m : List Blk) : stepQ env m (.idxs x i) = (match x.ev env, i.ev env with
    | .c (.str s), .c (.int _ q) => if 0 ≤ q then (s[q.toNat]?).bind fun b => some (.c (.int .u8 b.toNat)) else none
    | _, _ => none) := rfl
theorem s_chk (x : Opd) (env : List (Nat × V)) (m : List Blk) : stepQ env m (.chk x) = (match x.ev env with
    | .c (.ptr b off tot) => (live m b tot).bind fun _ => some (.c (.ptr b off tot))
    | _ => none) := rfl
theorem s_cvt (k : IntKind) (x : Opd) (env : List (Nat × V)) (m : List Blk) : stepQ env m (.cvt k x) = (match x.ev env with
    | .c (.int _ n) => some (.c (.int k (k.wrap n)))
    | _ => none) := rfl
theorem s_shf (op : BinOp) (x : Opd) (y : Opd) (env : List (Nat × V)) (m : List Blk) : stepQ env m (.shf op x y) = (match x.ev env, y.ev env with
    | .c (.int k a), .c (.int _ b) => if b < 0 then none else match op with
      | .shl => some (.c (.int k (k.wrap (a * 2 ^ (min b.toNat k.bits)))))
      | .shr => some (.c (.int k (a.fdiv (2 ^ (min b.toNat k.bits)))))
      | _ => none
    | _, _ => none) := rfl
theorem s_mxi (lo : Bool) (x : Opd) (y : Opd) (env : List (Nat × V)) (m : List Blk) : stepQ env m (.mxi lo x y) = (match x.ev env, y.ev env with
    | .c (.int k a), .c (.int k' b) => if k = k' then some (.c (.int k (if lo then (if a ≤ b then a else b) else (if a ≤ b then b else a)))) else none
    | _, _ => none) := rfl
def lenV (m : List Blk) : V → Option V
  | .c .nils => some (.c (.int .i64 0))
  | .c (.sl b _ n tot) => (live m b tot).bind fun _ => some (.c (.int .i64 n))
  | _ => none
theorem s_len (x : Opd) (env : List (Nat × V)) (m : List Blk) : stepQ env m (.len x) = lenV m (x.ev env) := by
  simp only [stepQ]
  cases x.ev env with
  | c y => cases y <;> rfl
  | agg l => rfl
  | tup l => rfl
def ixsV (m : List Blk) (esz : Nat) : V → V → Option V
  | .c (.sl b o len tot), .c (.int _ n) => (live m b tot).bind fun _ => guard' (0 ≤ n ∧ n < len) (some (.c (.ptr b (o + n.toNat * esz) tot)))
  | _, _ => none
theorem s_ixs (x i : Opd) (esz : Nat) (env : List (Nat × V)) (m : List Blk) : stepQ env m (.ixs x i esz) = ixsV m esz (x.ev env) (i.ev env) := by
  simp only [stepQ]
  cases x.ev env with
  | c y =>
    cases i.ev env with
    | c z => cases y <;> cases z <;> rfl
    | agg l => cases y <;> rfl
    | tup l => cases y <;> rfl
  | agg l => rfl
  | tup l => rfl
def ld1V (m : List Blk) : V → Option V
  | .c (.ptr b off tot) => (live m b tot).bind fun blk => (blk.cs[off]?).bind fun c => some (.c c)
  | _ => none
theorem s_load1 (x : Opd) (env : List (Nat × V)) (m : List Blk) : stepQ env m (.load1 x) = ld1V m (x.ev env) := by
  simp only [stepQ]
  cases x.ev env with
  | c y => cases y <;> rfl
  | agg l => rfl
  | tup l => rfl
/-- A slice's element's place. -/
def ptrOf : C → Nat → C
  | .sl b off _ tot, i => .ptr b (off + i) tot
  | c, _ => c
theorem Sl.lenV {m : List Blk} {v : C} {xs : List Int} (h : Sl m v xs) : lenV m (.c v) = some (vi xs.length) := by
  rcases h with ⟨rfl, rfl⟩ | ⟨b, off, tot, blk, rfl, h2, h3, h4⟩
  · rfl
  · simp [Go.Proofs.Ytkoloapgeilbdaa.lenV, h2]
theorem Sl.ixV {m : List Blk} {v : C} {xs : List Int} (h : Sl m v xs) {i : Int} (hi : 0 ≤ i ∧ i < xs.length) : ixsV m 1 (.c v) (vi i) = some (.c (ptrOf v i.toNat)) := by
  rcases h with ⟨rfl, rfl⟩ | ⟨b, off, tot, blk, rfl, h2, h3, h4⟩
  · simp at hi; omega
  · simp [ixsV, h2, guard', hi, ptrOf]
theorem Sl.ldV {m : List Blk} {v : C} {xs : List Int} (h : Sl m v xs) {i : Nat} (hi : i < xs.length) : ld1V m (.c (ptrOf v i)) = some (vi (nth xs i)) := by
  rcases h with ⟨rfl, rfl⟩ | ⟨b, off, tot, blk, rfl, h2, h3, h4⟩
  · simp at hi
  · have := h4 i hi
    simp [ld1V, h2, ptrOf, this]
theorem Sl.take {m : List Blk} {v : C} {xs : List Int} (h : Sl m v xs) : v.refs ≤ m.length := by
  rcases h with ⟨rfl, rfl⟩ | ⟨b, off, tot, blk, rfl, h2, h3, h4⟩
  · exact Nat.zero_le _
  · exact live_lt h2
theorem d_mov (env : List (Nat × V)) (m : List Blk) (x : Opd) : stepD call env m (.mov x) = some (x.ev env) := rfl
theorem d_pick (env : List (Nat × V)) (m : List Blk) (c a b : Opd) : stepD call env m (.pick c a b) = stepQ env m (.pick c a b) := rfl
theorem d_load1 (env : List (Nat × V)) (m : List Blk) (a : Opd) : stepD call env m (.load1 a) = stepQ env m (.load1 a) := rfl
theorem d_loadN (env : List (Nat × V)) (m : List Blk) (a : Opd) (n : Nat) : stepD call env m (.loadN a n) = stepQ env m (.loadN a n) := rfl
theorem d_fld (env : List (Nat × V)) (m : List Blk) (a : Opd) (o : Nat) : stepD call env m (.fld a o) = stepQ env m (.fld a o) := rfl
theorem d_ixa (env : List (Nat × V)) (m : List Blk) (a i : Opd) (n s : Nat) : stepD call env m (.ixa a i n s) = stepQ env m (.ixa a i n s) := rfl
theorem d_ixs (env : List (Nat × V)) (m : List Blk) (a i : Opd) (s : Nat) : stepD call env m (.ixs a i s) = stepQ env m (.ixs a i s) := rfl
theorem d_ext (env : List (Nat × V)) (m : List Blk) (a : Opd) (o : Nat) : stepD call env m (.ext a o) = stepQ env m (.ext a o) := rfl
theorem d_bin (env : List (Nat × V)) (m : List Blk) (op : BinOp) (x y : Opd) : stepD call env m (.bin op x y) = bin' op (x.ev env) (y.ev env) := rfl
theorem d_binb (env : List (Nat × V)) (m : List Blk) (ne : Bool) (x y : Opd) : stepD call env m (.binb ne x y) = stepQ env m (.binb ne x y) := rfl
theorem d_bins (env : List (Nat × V)) (m : List Blk) (op : BinOp) (x y : Opd) : stepD call env m (.bins op x y) = stepQ env m (.bins op x y) := rfl
theorem d_un (env : List (Nat × V)) (m : List Blk) (op : UnOp) (x : Opd) : stepD call env m (.un op x) = un' op (x.ev env) := rfl
theorem d_eqa (env : List (Nat × V)) (m : List Blk) (ne : Bool) (ks : List (Option IntKind)) (x y : Opd) : stepD call env m (.eqa ne ks x y) = stepQ env m (.eqa ne ks x y) := rfl
theorem d_len (env : List (Nat × V)) (m : List Blk) (x : Opd) : stepD call env m (.len x) = stepQ env m (.len x) := rfl
theorem d_lens (env : List (Nat × V)) (m : List Blk) (x : Opd) : stepD call env m (.lens x) = stepQ env m (.lens x) := rfl
theorem d_sls (env : List (Nat × V)) (m : List Blk) (a : Opd) (e : Nat) (lo hi : Option Opd) : stepD call env m (.sls a e lo hi) = stepQ env m (.sls a e lo hi) := rfl
theorem d_sla (env : List (Nat × V)) (m : List Blk) (a : Opd) (n e : Nat) (lo hi : Option Opd) : stepD call env m (.sla a n e lo hi) = stepQ env m (.sla a n e lo hi) := rfl
theorem d_bld (env : List (Nat × V)) (m : List Blk) (z : List C) (ps : List (Nat × Nat × Opd)) : stepD call env m (.bld z ps) = stepQ env m (.bld z ps) := rfl
theorem q_idx (x i : Opd) (len n : Nat) (ag : Bool) : stepL call n0 st (.idx x i len n ag) = quiC st (stepQ st.env st.mem (.idx x i len n ag)) := rfl
theorem d_idx (x i : Opd) (len n : Nat) (ag : Bool) (env : List (Nat × V)) (m : List Blk) : stepD call env m (.idx x i len n ag) = stepQ env m (.idx x i len n ag) := rfl
theorem q_idxs (x i : Opd) : stepL call n0 st (.idxs x i) = quiC st (stepQ st.env st.mem (.idxs x i)) := rfl
theorem d_idxs (x i : Opd) (env : List (Nat × V)) (m : List Blk) : stepD call env m (.idxs x i) = stepQ env m (.idxs x i) := rfl
theorem q_chk (x : Opd) : stepL call n0 st (.chk x) = quiC st (stepQ st.env st.mem (.chk x)) := rfl
theorem d_chk (x : Opd) (env : List (Nat × V)) (m : List Blk) : stepD call env m (.chk x) = stepQ env m (.chk x) := rfl
theorem q_cvt (k : IntKind) (x : Opd) : stepL call n0 st (.cvt k x) = quiC st (stepQ st.env st.mem (.cvt k x)) := rfl
theorem d_cvt (k : IntKind) (x : Opd) (env : List (Nat × V)) (m : List Blk) : stepD call env m (.cvt k x) = stepQ env m (.cvt k x) := rfl
theorem q_shf (op : BinOp) (x y : Opd) : stepL call n0 st (.shf op x y) = quiC st (stepQ st.env st.mem (.shf op x y)) := rfl
theorem d_shf (op : BinOp) (x y : Opd) (env : List (Nat × V)) (m : List Blk) : stepD call env m (.shf op x y) = stepQ env m (.shf op x y) := rfl
theorem q_prt (x : Opd) (off n : Nat) (ag : Bool) : stepL call n0 st (.prt x off n ag) = quiC st (stepQ st.env st.mem (.prt x off n ag)) := rfl
theorem d_prt (x : Opd) (off n : Nat) (ag : Bool) (env : List (Nat × V)) (m : List Blk) : stepD call env m (.prt x off n ag) = stepQ env m (.prt x off n ag) := rfl
theorem q_mxi (lo : Bool) (x y : Opd) : stepL call n0 st (.mxi lo x y) = quiC st (stepQ st.env st.mem (.mxi lo x y)) := rfl
theorem d_mxi (lo : Bool) (x y : Opd) (env : List (Nat × V)) (m : List Blk) : stepD call env m (.mxi lo x y) = stepQ env m (.mxi lo x y) := rfl
theorem q_nil (ne : Bool) (x : Opd) : stepL call n0 st (.nil ne x) = quiC st (stepQ st.env st.mem (.nil ne x)) := rfl
theorem d_nil (ne : Bool) (x : Opd) (env : List (Nat × V)) (m : List Blk) : stepD call env m (.nil ne x) = stepQ env m (.nil ne x) := rfl
def idxV (len n : Nat) (ag : Bool) : V → V → Option V
  | .agg cs, .c (.int _ q) => guard' (0 ≤ q ∧ q < len ∧ q.toNat * n + n ≤ cs.length) (if ag then some (.agg ((cs.drop (q.toNat * n)).take n)) else (cs[q.toNat * n]?).bind fun c => some (.c c))
  | _, _ => none
theorem s_idx (x i : Opd) (len n : Nat) (ag : Bool) (env : List (Nat × V)) (m : List Blk) : stepQ env m (.idx x i len n ag) = idxV len n ag (x.ev env) (i.ev env) := by
  simp only [stepQ, idxV]
  cases x.ev env with
  | agg l =>
    cases i.ev env with
    | c z => cases z <;> rfl
    | agg l => rfl
    | tup l => rfl
  | c z => rfl
  | tup l => rfl
theorem d_call (f : FuncId) (args : List Opd) (env : List (Nat × V)) (m : List Blk) : stepD call env m (.call f args) = dalC m (call f (args.map (·.ev env)) m) := rfl
def davC (call : FuncId → List V → List Blk → Option Ret) (env : List (Nat × V)) (m : List Blk) (args : List Opd) (x : V) : Option V := match x with
  | .c (.fn f) => dalC m (call f (args.map (·.ev env)) m)
  | .c (.clo f ns) => dalC m (call f (args.map (·.ev env) ++ capV ns) m)
  | _ => none
theorem d_callv (x : Opd) (args : List Opd) (env : List (Nat × V)) (m : List Blk) : stepD call env m (.callv x args) = davC call env m args (x.ev env) := by
  simp only [stepD, davC]
  cases x.ev env with
  | c y => cases y <;> rfl
  | agg l => rfl
  | tup l => rfl
theorem c_dav (args : List Opd) (f : FuncId) (env : List (Nat × V)) (m : List Blk) : davC call env m args (.c (.fn f)) = dalC m (call f (args.map (·.ev env)) m) := rfl
theorem c_davc (args : List Opd) (f : FuncId) (ns : List (IntKind × Int)) (env : List (Nat × V)) (m : List Blk) : davC call env m args (.c (.clo f ns)) = dalC m (call f (args.map (·.ev env) ++ capV ns) m) := rfl
/-- A loop with what stands around it: from each head state either out with what is promised, or round to a smaller one that promises the same. -/
theorem iter_blk {σ : Type} {f : St → Option (Ex × St)} {tr : St → St} {id : Nat} {ka : Option (List Nat)} (H : σ → St) (I : σ → Prop) (μ : σ → Nat) (res : σ → Ex × St)
    (hs : ∀ s, I s → ∃ e st, f (H s) = some (e, st) ∧ match e with
      | .norm => ∃ s', tr st = H s' ∧ I s' ∧ μ s' < μ s ∧ res s' = res s
      | e => blkC n0 id ka (some (e, st)) = some (res s)) :
    ∀ n s st, I s → tr st = H s → μ s < n → blkC n0 id ka (iter f tr n st) = some (res s) := by
  intro n
  induction n with
  | zero => intro s st _ _ h; omega
  | succ n ih =>
    intro s st hI ht hn
    obtain ⟨e, st', he, h⟩ := hs s hI
    unfold iter
    rw [ht, he]
    cases e with
    | norm =>
      obtain ⟨s', h1, h2, h3, h4⟩ := h
      show blkC n0 id ka (iter f tr n st') = _
      rw [ih s' st' h2 h1 (by omega), h4]
    | exit id => exact h
    | ret => exact h
/-! Open regions that make or write memory. -/
def eC (call : FuncId → List V → List Blk → Option Ret) (n0 n : Nat) (d : Option Nat) (r : List EOp) (ix : Nat) (un : List Nat) (fs : List (Nat × Foot)) (F : Foot) (x : Option (V × St)) : Option St := x.bind fun q => if okF un fs F = true then execE call n0 n r ((ix, F) :: fs) (put d q.1 q.2) else none
theorem k_regE (k : Nat) (ops : List EOp) (env : List (Nat × V)) (m : List Blk) (e : Nat) (w : Nat) : exec call L n0 kp (.regE k ops) ⟨env, m, e, w⟩ = regC (execE call n0 m.length ops [] ⟨env, m ++ List.replicate k dead, e, w⟩) := rfl
theorem k_enil (n : Nat) (fs : List (Nat × Foot)) : execE call n0 n [] fs st = some st := rfl
theorem k_e (n : Nat) (d : Option Nat) (i : I) (ix p : Nat) (ml : Bool) (un : List Nat) (r : List EOp) (fs : List (Nat × Foot)) : execE call n0 n (⟨⟨d, none, i⟩, ix, p, ml, un⟩ :: r) fs st = eC call n0 n d r ix un fs (foot st.env (n + p) i) (stepE call n0 n ⟨⟨d, none, i⟩, ix, p, ml, un⟩ st) := by
  simp only [execE, stepG, wantB, Option.bind_some, if_true, eC]
  cases stepE call n0 n ⟨⟨d, none, i⟩, ix, p, ml, un⟩ st <;> rfl
theorem c_e (n d : Nat) (r : List EOp) (ix : Nat) (un : List Nat) (fs : List (Nat × Foot)) (F : Foot) (v : V) (env : List (Nat × V)) (m : List Blk) (e : Nat) (w : Nat) : eC call n0 n (some d) r ix un fs F (some (v, ⟨env, m, e, w⟩)) = guard' (okF un fs F = true) (execE call n0 n r ((ix, F) :: fs) ⟨(d, v) :: env, m, e, w⟩) := rfl
theorem c_e0 (n : Nat) (r : List EOp) (ix : Nat) (un : List Nat) (fs : List (Nat × Foot)) (F : Foot) (v : V) : eC call n0 n none r ix un fs F (some (v, st)) = guard' (okF un fs F = true) (execE call n0 n r ((ix, F) :: fs) st) := rfl
variable (n : Nat) (d : Option Nat) (g : Option (Nat × Bool)) (ix p : Nat) (un : List Nat)
def plcC (q : Nat) (st : St) (x : Option (V × St)) : Option (V × St) := x.bind (place q st)
theorem e_alloc (ml : Bool) (z : List C) (ty : TypeId) : stepE call n0 n ⟨⟨d, g, .alloc z ty⟩, ix, p, ml, un⟩ st = plcC (n + p) st (stepL call n0 { st with mem := [] } (.alloc z ty)) := rfl
theorem e_box (ml : Bool) (x : Opd) (ty : TypeId) : stepE call n0 n ⟨⟨d, g, .box x ty⟩, ix, p, ml, un⟩ st = plcC (n + p) st (stepL call n0 { st with mem := [] } (.box x ty)) := rfl
theorem e_mks (ml : Bool) (x : Opd) (z : List C) (ty : TypeId) (b : Nat) : stepE call n0 n ⟨⟨d, g, .mks x z ty b⟩, ix, p, ml, un⟩ st = plcC (n + p) st (stepL call n0 { st with mem := [] } (.mks x z ty b)) := rfl
theorem e_lit (ml : Bool) (k e : Nat) (z : List C) (ps : List (Nat × Opd)) (ty : TypeId) : stepE call n0 n ⟨⟨d, g, .lit k e z ps ty⟩, ix, p, ml, un⟩ st = plcC (n + p) st (stepL call n0 { st with mem := [] } (.lit k e z ps ty)) := rfl
theorem c_plc_ptr (q o t : Nat) (blk : Blk) (env env' : List (Nat × V)) (m : List Blk) (e e' : Nat) (w w' : Nat) : plcC q ⟨env, m, e, w⟩ (some (.c (.ptr 0 o t), ⟨env', [blk], e', w'⟩)) = guard' (isDead m q = true ∧ refsL blk.cs ≤ m.length) (some (.c (.ptr q o t), ⟨env, m.set q blk, e', w⟩)) := rfl
theorem c_plc_sl (q o l t : Nat) (blk : Blk) (env env' : List (Nat × V)) (m : List Blk) (e e' : Nat) (w w' : Nat) : plcC q ⟨env, m, e, w⟩ (some (.c (.sl 0 o l t), ⟨env', [blk], e', w'⟩)) = guard' (isDead m q = true ∧ refsL blk.cs ≤ m.length) (some (.c (.sl q o l t), ⟨env, m.set q blk, e', w⟩)) := rfl
theorem e_mov (x : Opd) : stepE call n0 n ⟨⟨d, g, .mov x⟩, ix, p, false, un⟩ st = some (x.ev st.env, st) := rfl
theorem e_mkc (f : FuncId) (l : List Opd) : stepE call n0 n ⟨⟨d, g, .mkc f l⟩, ix, p, false, un⟩ st = stepL call n0 st (.mkc f l) := rfl
theorem e_pick (c a b : Opd) : stepE call n0 n ⟨⟨d, g, .pick c a b⟩, ix, p, false, un⟩ st = stepL call n0 st (.pick c a b) := rfl
theorem e_load1 (a : Opd) : stepE call n0 n ⟨⟨d, g, .load1 a⟩, ix, p, false, un⟩ st = stepL call n0 st (.load1 a) := rfl
theorem e_loadN (a : Opd) (k : Nat) : stepE call n0 n ⟨⟨d, g, .loadN a k⟩, ix, p, false, un⟩ st = stepL call n0 st (.loadN a k) := rfl
theorem e_fld (a : Opd) (k : Nat) : stepE call n0 n ⟨⟨d, g, .fld a k⟩, ix, p, false, un⟩ st = stepL call n0 st (.fld a k) := rfl
theorem e_ixa (a i : Opd) (l e : Nat) : stepE call n0 n ⟨⟨d, g, .ixa a i l e⟩, ix, p, false, un⟩ st = stepL call n0 st (.ixa a i l e) := rfl
theorem e_ixs (a i : Opd) (e : Nat) : stepE call n0 n ⟨⟨d, g, .ixs a i e⟩, ix, p, false, un⟩ st = stepL call n0 st (.ixs a i e) := rfl
theorem e_ext (a : Opd) (k : Nat) : stepE call n0 n ⟨⟨d, g, .ext a k⟩, ix, p, false, un⟩ st = stepL call n0 st (.ext a k) := rfl
theorem e_bin (op : BinOp) (x y : Opd) : stepE call n0 n ⟨⟨d, g, .bin op x y⟩, ix, p, false, un⟩ st = stepL call n0 st (.bin op x y) := rfl
theorem e_binb (op : Bool) (x y : Opd) : stepE call n0 n ⟨⟨d, g, .binb op x y⟩, ix, p, false, un⟩ st = stepL call n0 st (.binb op x y) := rfl
theorem e_bins (op : BinOp) (x y : Opd) : stepE call n0 n ⟨⟨d, g, .bins op x y⟩, ix, p, false, un⟩ st = stepL call n0 st (.bins op x y) := rfl
theorem e_un (op : UnOp) (x : Opd) : stepE call n0 n ⟨⟨d, g, .un op x⟩, ix, p, false, un⟩ st = stepL call n0 st (.un op x) := rfl
theorem e_len (x : Opd) : stepE call n0 n ⟨⟨d, g, .len x⟩, ix, p, false, un⟩ st = stepL call n0 st (.len x) := rfl
theorem e_lens (x : Opd) : stepE call n0 n ⟨⟨d, g, .lens x⟩, ix, p, false, un⟩ st = stepL call n0 st (.lens x) := rfl
theorem e_chk (x : Opd) : stepE call n0 n ⟨⟨d, g, .chk x⟩, ix, p, false, un⟩ st = stepL call n0 st (.chk x) := rfl
theorem e_bld (z : List C) (ps : List (Nat × Nat × Opd)) : stepE call n0 n ⟨⟨d, g, .bld z ps⟩, ix, p, false, un⟩ st = stepL call n0 st (.bld z ps) := rfl
theorem e_prt (x : Opd) (o k : Nat) (ag : Bool) : stepE call n0 n ⟨⟨d, g, .prt x o k ag⟩, ix, p, false, un⟩ st = stepL call n0 st (.prt x o k ag) := rfl
theorem e_idx (x i : Opd) (l k : Nat) (ag : Bool) : stepE call n0 n ⟨⟨d, g, .idx x i l k ag⟩, ix, p, false, un⟩ st = stepL call n0 st (.idx x i l k ag) := rfl
theorem e_sls (s : Opd) (e : Nat) (lo hi : Option Opd) : stepE call n0 n ⟨⟨d, g, .sls s e lo hi⟩, ix, p, false, un⟩ st = stepL call n0 st (.sls s e lo hi) := rfl
theorem e_sla (s : Opd) (k e : Nat) (lo hi : Option Opd) : stepE call n0 n ⟨⟨d, g, .sla s k e lo hi⟩, ix, p, false, un⟩ st = stepL call n0 st (.sla s k e lo hi) := rfl
theorem e_store (a x : Opd) (k : Nat) : stepE call n0 n ⟨⟨d, g, .store a x k⟩, ix, p, false, un⟩ st = stepL call n0 st (.store a x k) := rfl
theorem e_app (s x : Opd) (ty : TypeId) (e b : Nat) : stepE call n0 n ⟨⟨d, g, .app s x ty e b⟩, ix, p, false, un⟩ st = guard' (nilApp st.env (.app s x ty e b) = false) (stepL call n0 st (.app s x ty e b)) := by
  simp only [stepE, I.makes, Bool.false_eq_true, if_false, guard']
  cases nilApp st.env (.app s x ty e b) <;> rfl
theorem e_call (f : FuncId) (l : List Opd) : stepE call n0 n ⟨⟨d, g, .call f l⟩, ix, p, false, un⟩ st = stepL call n0 st (.call f l) := rfl
def pucC (st : St) (args : List V) (x : Option Ret) : Option (V × St) := x.bind (pureC st args)
theorem e_callm (f : FuncId) (l : List Opd) : stepE call n0 n ⟨⟨d, g, .call f l⟩, ix, p, true, un⟩ st = pucC st (l.map (·.ev st.env)) (call f (l.map (·.ev st.env)) []) := rfl
theorem c_puc (args : List V) (v : V) (e : Nat) : pucC st args (some ⟨v, [], e, 0⟩) = guard' (V.refsAll args = 0) (some (v, st)) := by
  simp [pucC, pureC, guard']
theorem nilApp_sl (env : List (Nat × V)) (s x : Opd) (ty : TypeId) (e b : Nat) : nilApp env (.app s x ty e b) = match s.ev env with
    | .c .nils => (match x.ev env with
      | .c .nils => false
      | .c (.sl _ _ 0 _) => false
      | _ => true)
    | _ => false := rfl
theorem isDead_app (m l : List Blk) (k : Nat) : isDead (m ++ l) (m.length + k) = isDead l k := by unfold isDead; rw [get_app]
theorem isDead_app0 (m l : List Blk) : isDead (m ++ l) m.length = isDead l 0 := by unfold isDead; rw [get_app0]
theorem isDead_0 (l : List Blk) : isDead (dead :: l) 0 = true := rfl
theorem isDead_s (b : Blk) (l : List Blk) (k : Nat) : isDead (b :: l) (k + 1) = isDead l k := rfl
theorem okF_nil (fs : List (Nat × Foot)) (F : Foot) : okF [] fs F = true := by unfold okF; simp
theorem rep_one (b : Blk) : List.replicate 1 b = [b] := rfl
theorem rep_two (b : Blk) : List.replicate 2 b = [b, b] := rfl
theorem rep_three (b : Blk) : List.replicate 3 b = [b, b, b] := rfl
theorem lenV_n (m : List Blk) : lenV m (.c .nils) = some (.c (.int .i64 0)) := rfl
theorem lenV_s (m : List Blk) (b o k t : Nat) : lenV m (.c (.sl b o k t)) = (live m b t).bind fun _ => some (.c (.int .i64 k)) := rfl
theorem ixsV_s (m : List Blk) (esz b o l t : Nat) (kd : IntKind) (i : Int) : ixsV m esz (.c (.sl b o l t)) (.c (.int kd i)) = (live m b t).bind fun _ => guard' (0 ≤ i ∧ i < l) (some (.c (.ptr b (o + i.toNat * esz) t))) := rfl
theorem ld1V_p (m : List Blk) (b o t : Nat) : ld1V m (.c (.ptr b o t)) = (live m b t).bind fun blk => (blk.cs[o]?).bind fun c => some (.c c) := rfl
theorem idxV_a (len k : Nat) (ag : Bool) (cs : List C) (kd : IntKind) (q : Int) : idxV len k ag (.agg cs) (.c (.int kd q)) = guard' (0 ≤ q ∧ q < len ∧ q.toNat * k + k ≤ cs.length) (if ag then some (.agg ((cs.drop (q.toNat * k)).take k)) else (cs[q.toNat * k]?).bind fun c => some (.c c)) := rfl
theorem ite_nle {α : Type} {a b : Nat} {x y : α} (h : ¬ a ≤ b) : (if a ≤ b then x else y) = y := if_neg h
theorem ite_nlt {α : Type} {a b : Nat} {x y : α} (h : ¬ a < b) : (if a < b then x else y) = y := if_neg h
theorem isDead_sapp (m l : List Blk) (b : Nat) (x : Blk) (k : Nat) : isDead (m.set b x ++ l) (m.length + k) = isDead l k := by unfold isDead; rw [get_sapp]
theorem isDead_sapp0 (m l : List Blk) (b : Nat) (x : Blk) : isDead (m.set b x ++ l) m.length = isDead l 0 := by unfold isDead; rw [get_sapp0]
/-! The rules, told to the rewriter once. -/
attribute [simp] k_ops k_opsg k_nil k_drw k_drwg k_dnil k_skip k_reg k_rdw k_seq k_cond k_block k_loop k_exit k_ret k_run c_ops c_ops0 c_opsn c_opsi c_opsg_tt c_opsg_ff c_opsg_tf c_opsg_ft c_opsg_tf0 c_opsg_ft0 c_opsg_u c_opsg_u0 c_drw c_drwn c_drwg_tt c_drwg_ff c_drwg_tf c_drwg_ft c_drwg_u c_qui c_quin c_quii c_cal c_cal2 c_dal c_reg c_regn c_regi c_rdw c_seq c_seqx c_seqr c_seqn c_seqi c_cndt c_cndf c_cndd c_cndn c_opsg_d c_drwg_d c_drwi c_rdwi c_beq c_bne c_blk c_blkx c_blky c_blkr c_blkn c_blki c_runr c_runn c_run0 c_runi c_fin k_res k_res0 c_res c_resd q_call q_callv c_cav c_cavc c_cavp q_clr c_clr0 c_clr c_clrB q_mkc d_mkc s_mkc c_mkcp c_mkc0 c_mkcs capt_0 capt_s capV_0 capV_s q_mov q_pick q_load1 q_loadN q_fld q_ixa q_ixs q_ext q_bin q_binb q_bins q_un q_eqa q_len q_lens q_sla q_sls q_bld q_store c_sto c_wri q_alloc q_box c_box q_mks q_lit c_lit q_app c_app c_appn c_appB s_len s_ixs s_load1 d_mov d_pick d_load1 d_loadN d_fld d_ixa d_ixs d_ext d_bin d_binb d_bins d_un d_eqa d_len d_lens d_sls d_sla d_bld q_idx d_idx q_idxs d_idxs q_chk d_chk q_cvt d_cvt q_shf d_shf q_prt d_prt q_mxi d_mxi q_nil d_nil s_idx d_call d_callv c_dav c_davc ite_bind len_add number Opd.ev bin' binI un' V.bool? V.int? V.cells? C.firm guard_pos lt_add_f ar_len ar_get ar_get' ar_lay ar_lay' ar_past ar_lay_past ar_take ar_all ar_refs ar_hard ar_over ar_over' refs_append guard_true live_app live_app0 res1 V.one? resV fin V.refs V.refsAll C.refs envRefs mx_zero_l mx_zero_r mx_r mx_l take_app take_app0 get_app get_app0 set_app set_app0 refsL lay_all layAll lo' hi' C.hard V.hard eqL eqC src rep List.getElem?_cons_zero List.getElem?_cons_succ List.set_cons_zero List.set_cons_succ trim_none trim_some slots ar_take_past ar_drop_past ar_over2 lay_nil lay_0 lay_s take_mx wrap_pos tmod_pos get_hit get_miss V.own C.own nub pickB V.ren C.ren pos nds_len nds_u nds_a nds_b nds_c nds_u' nds_a' nds_b' nds_c' nds_lu nds_la nds_lb nds_lc nds_l nds_l' nds_at nds_at' nds_past nds_lay_past nds_take nds_all nds_take_past nds_drop_past nds_refs nds_hard nds_over nds_over2 nds_over' nd_len nd_refs nd_hard k_regE k_enil k_e c_e c_e0 e_alloc e_box e_mks e_lit c_plc_ptr c_plc_sl e_mov e_pick e_mkc e_load1 e_loadN e_fld e_ixa e_ixs e_ext e_bin e_binb e_bins e_un e_len e_lens e_chk e_bld e_prt e_idx e_sls e_sla e_store e_app e_call e_callm c_puc nilApp_sl isDead_app isDead_app0 isDead_0 isDead_s okF_nil rep_one rep_two rep_three okF foot V.blk V.rng V.srng Foot.fits far wr_le s_mov s_pick s_loadN s_fld s_ixa s_ext s_bin s_binb s_bins s_un s_eqa s_nil s_lens s_sla s_sls s_bld s_prt s_idxs s_chk s_cvt s_shf s_mxi lenV_n lenV_s ixsV_s ld1V_p idxV_a take_set ite_nle ite_nlt List.filter_cons List.filter_nil ints_len ints_refs bar_len bar_get bar_get' bar_lay bar_lay' bar_past bar_lay_past bar_take bar_all bar_refs bar_hard bar_over bar_over' bar_take_past bar_drop_past get_sapp get_sapp0 set_sapp set_sapp0 take_sapp take_sapp0 live_sapp live_sapp0 get_sb get_sb0 set_sb live_sb live_sb0 List.set_set List.length_set isDead_sapp isDead_sapp0 tdiv_pos 
end Go.Proofs.Ytkoloapgeilbdaa
