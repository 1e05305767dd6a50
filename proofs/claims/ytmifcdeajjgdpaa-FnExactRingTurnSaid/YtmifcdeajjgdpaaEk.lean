/-
  Running the abstract machine by rewriting, first what is at hand: what follows stands as data, so that nothing is looked at too early.
-/
import Derived.Test.YtmifcdeajjgdpaaLay
set_option linter.unusedVariables false
namespace Go.Proofs.Ytmifcdeajjgdpaa
variable {call : FuncId → List V → List Blk → Option Ret} {L n0 : Nat}

/-! The parts that wait. -/
def opsC (call : FuncId → List V → List Blk → Option Ret) (n0 : Nat) (d : Option Nat) (r : List IOp) (x : Option (V × St)) : Option St := x.bind fun p => execOps call n0 r (put d p.1 p.2)
def opsG (call : FuncId → List V → List Blk → Option Ret) (n0 : Nat) (t : Nat) (b : Bool) (d : Option Nat) (i : I) (r : List IOp) (st : St) (v : V) : Option St :=
  match v with
  | .c (.bool x) => if x = b then opsC call n0 d r (stepL call n0 { st with env := (t, .c (.bool b)) :: st.env } i) else execOps call n0 r (put d (.c .undef) { st with env := (t, .c (.bool (!b))) :: st.env })
  | .c .undef => execOps call n0 r (put d (.c .undef) st)
  | _ => none
def drwC (call : FuncId → List V → List Blk → Option Ret) (m : List Blk) (d : Nat) (r : List IOp) (env : List (Nat × V)) (x : Option V) : Option (List (Nat × V)) := x.bind fun v => execD call m r ((d, v) :: env)
def drwG (call : FuncId → List V → List Blk → Option Ret) (m : List Blk) (t : Nat) (b : Bool) (d : Nat) (i : I) (r : List IOp) (env : List (Nat × V)) (v : V) : Option (List (Nat × V)) :=
  match v with
  | .c (.bool x) => if x = b then drwC call m d r ((t, .c (.bool b)) :: env) (stepD call ((t, .c (.bool b)) :: env) m i) else execD call m r ((d, .c .undef) :: (t, .c (.bool (!b))) :: env)
  | .c .undef => execD call m r ((d, .c .undef) :: env)
  | _ => none
def quiC (st : St) (x : Option V) : Option (V × St) := x.bind fun v => some (v, st)
def calC (st : St) (x : Option Ret) : Option (V × St) := x.bind fun r => some (r.v, { st with mem := r.mem, esc := mx st.esc (mx r.esc (if r.wr then st.mem.length else 0)), wr := st.wr || r.wr })
def dalC (m : List Blk) (x : Option Ret) : Option V := x.bind fun r => if r.wr = false ∧ r.mem.length = m.length ∧ r.v.hard = true then some r.v else none
def regC (x : Option St) : Option (Ex × St) := x.bind fun st => some (.norm, st)
def rdwC (st : St) (x : Option (List (Nat × V))) : Option (Ex × St) := x.bind fun env => some (.norm, { st with env := env })
def seqC (call : FuncId → List V → List Blk → Option Ret) (L n0 : Nat) (kp : Option (List Nat)) (b : IC) (x : Option (Ex × St)) : Option (Ex × St) := x.bind fun p => match p.1 with
    | .norm => exec call L n0 kp b p.2
    | e => some (e, p.2)
def cndC (call : FuncId → List V → List Blk → Option Ret) (L n0 : Nat) (kp : Option (List Nat)) (a b : IC) (st : St) (v : V) : Option (Ex × St) := v.bool?.bind fun t => if t then exec call L n0 kp a st else exec call L n0 kp b st
def blkC (n0 : Nat) (id : Nat) (ka : Option (List Nat)) (x : Option (Ex × St)) : Option (Ex × St) := x.bind fun p => match p.1 with
    | .exit j => if j = id then some (.norm, trim n0 ka p.2) else some (.exit j, p.2)
    | .norm => some (.norm, trim n0 ka p.2)
    | .ret => some (.ret, p.2)
def runC (n0 : Nat) (res : List IR) (x : Option (Ex × St)) : Option Ret := x.bind fun p => match p.1 with
    | .exit _ => none
    | _ => (resAll p.2 res).bind fun vs => some (fin n0 (resV vs) p.2)
def finC (n0 : Nat) (st : St) (x : Option (List V)) : Option Ret := x.bind fun vs => some (fin n0 (resV vs) st)
def resC1 (r : List V) (x : Option V) : Option (List V) := x.bind fun v => some (v :: r)
def resC (st : St) (l : List IR) (x : Option V) : Option (List V) := x.bind fun v => (resAll st l).bind fun vs => some (v :: vs)
def resD (v : V) (x : Option (List V)) : Option (List V) := x.bind fun vs => some (v :: vs)

/-! How they are entered. -/
theorem k_ops (d : Option Nat) (i : I) (r : List IOp) (st : St) : execOps call n0 (⟨d, none, i⟩ :: r) st = opsC call n0 d r (stepL call n0 st i) := rfl
theorem k_opsg (d : Option Nat) (t : Nat) (b : Bool) (i : I) (r : List IOp) (st : St) : execOps call n0 (⟨d, some (t, b), i⟩ :: r) st = opsG call n0 t b d i r st (get st.env t) := by
  simp only [execOps, want, opsG]
  cases get st.env t with
  | c x => cases x <;> rfl
  | agg l => rfl
  | tup l => rfl
theorem k_nil (st : St) : execOps call n0 [] st = some st := rfl
theorem k_drw (m : List Blk) (d : Nat) (i : I) (r : List IOp) (env : List (Nat × V)) : execD call m (⟨some d, none, i⟩ :: r) env = drwC call m d r env (stepD call env m i) := rfl
theorem k_drwg (m : List Blk) (d : Nat) (t : Nat) (b : Bool) (i : I) (r : List IOp) (env : List (Nat × V)) : execD call m (⟨some d, some (t, b), i⟩ :: r) env = drwG call m t b d i r env (get env t) := by
  simp only [execD, want, drwG]
  cases get env t with
  | c x => cases x <;> rfl
  | agg l => rfl
  | tup l => rfl
theorem k_dnil (m : List Blk) (env : List (Nat × V)) : execD call m [] env = some env := rfl
variable {kp : Option (List Nat)} {st : St}
theorem k_skip : exec call L n0 kp .skip st = some (.norm, st) := rfl
theorem k_reg (ops : List IOp) : exec call L n0 kp (.reg false ops) st = regC (execOps call n0 ops st) := rfl
theorem k_rdw (ops : List IOp) : exec call L n0 kp (.reg true ops) st = rdwC st (execD call st.mem ops st.env) := rfl
theorem k_seq (a b : IC) : exec call L n0 kp (.seq a b) st = seqC call L n0 kp b (exec call L n0 kp a st) := rfl
theorem k_cond (c : Opd) (a b : IC) : exec call L n0 kp (.cond c a b) st = cndC call L n0 kp a b st (c.ev st.env) := rfl
theorem k_block (id : Nat) (kq ka : Option (List Nat)) (b : IC) : exec call L n0 kp (.block id kq ka b) st = blkC n0 id ka (exec call L n0 kq b st) := rfl
theorem k_loop (b : IC) : exec call L n0 kp (.loop b) st = iter (fun s => exec call L n0 none b s) (trim n0 kp) L st := rfl
theorem k_exit (id : Nat) : exec call L n0 kp (.exit id) st = some (.exit id, st) := rfl
theorem k_ret (ks : Option (List Nat)) : exec call L n0 kp (.ret ks) st = some (.ret, trim n0 ks st) := rfl
theorem k_run (nt : Nat) (res : List IR) (body : IC) (args : List V) (m : List Blk) : runF call L ⟨nt, res, body⟩ args m = guard' (args.length ≤ nt) (runC m.length res (exec call L m.length none body ⟨number 0 args, m, 0, false⟩)) := by
  unfold runF guard' runC
  split <;> rfl

/-! How they go on. -/
theorem c_ops (d : Nat) (r : List IOp) (v : V) (env : List (Nat × V)) (m : List Blk) (e : Nat) (w : Bool) : opsC call n0 (some d) r (some (v, ⟨env, m, e, w⟩)) = execOps call n0 r ⟨(d, v) :: env, m, e, w⟩ := rfl
theorem c_ops0 (r : List IOp) (v : V) (st : St) : opsC call n0 none r (some (v, st)) = execOps call n0 r st := rfl
theorem c_opsn (d : Option Nat) (r : List IOp) : opsC call n0 d r none = none := rfl
theorem c_opsi (d : Option Nat) (r : List IOp) (c : Prop) [Decidable c] (x y : Option (V × St)) : opsC call n0 d r (if c then x else y) = if c then opsC call n0 d r x else opsC call n0 d r y := by split <;> rfl
theorem c_opsg_tt (t : Nat) (d : Option Nat) (i : I) (r : List IOp) (env : List (Nat × V)) (m : List Blk) (e : Nat) (w : Bool) : opsG call n0 t true d i r ⟨env, m, e, w⟩ (.c (.bool true)) = opsC call n0 d r (stepL call n0 ⟨(t, .c (.bool true)) :: env, m, e, w⟩ i) := rfl
theorem c_opsg_ff (t : Nat) (d : Option Nat) (i : I) (r : List IOp) (env : List (Nat × V)) (m : List Blk) (e : Nat) (w : Bool) : opsG call n0 t false d i r ⟨env, m, e, w⟩ (.c (.bool false)) = opsC call n0 d r (stepL call n0 ⟨(t, .c (.bool false)) :: env, m, e, w⟩ i) := rfl
theorem c_opsg_tf (t : Nat) (d : Nat) (i : I) (r : List IOp) (env : List (Nat × V)) (m : List Blk) (e : Nat) (w : Bool) : opsG call n0 t true (some d) i r ⟨env, m, e, w⟩ (.c (.bool false)) = execOps call n0 r ⟨(d, .c .undef) :: (t, .c (.bool false)) :: env, m, e, w⟩ := rfl
theorem c_opsg_ft (t : Nat) (d : Nat) (i : I) (r : List IOp) (env : List (Nat × V)) (m : List Blk) (e : Nat) (w : Bool) : opsG call n0 t false (some d) i r ⟨env, m, e, w⟩ (.c (.bool true)) = execOps call n0 r ⟨(d, .c .undef) :: (t, .c (.bool true)) :: env, m, e, w⟩ := rfl
theorem c_opsg_tf0 (t : Nat) (i : I) (r : List IOp) (env : List (Nat × V)) (m : List Blk) (e : Nat) (w : Bool) : opsG call n0 t true none i r ⟨env, m, e, w⟩ (.c (.bool false)) = execOps call n0 r ⟨(t, .c (.bool false)) :: env, m, e, w⟩ := rfl
theorem c_opsg_ft0 (t : Nat) (i : I) (r : List IOp) (env : List (Nat × V)) (m : List Blk) (e : Nat) (w : Bool) : opsG call n0 t false none i r ⟨env, m, e, w⟩ (.c (.bool true)) = execOps call n0 r ⟨(t, .c (.bool true)) :: env, m, e, w⟩ := rfl
theorem c_opsg_u (t : Nat) (b : Bool) (d : Nat) (i : I) (r : List IOp) (env : List (Nat × V)) (m : List Blk) (e : Nat) (w : Bool) : opsG call n0 t b (some d) i r ⟨env, m, e, w⟩ (.c .undef) = execOps call n0 r ⟨(d, .c .undef) :: env, m, e, w⟩ := rfl
theorem c_opsg_u0 (t : Nat) (b : Bool) (i : I) (r : List IOp) (st : St) : opsG call n0 t b none i r st (.c .undef) = execOps call n0 r st := rfl
theorem c_drw (m : List Blk) (d : Nat) (r : List IOp) (env : List (Nat × V)) (v : V) : drwC call m d r env (some v) = execD call m r ((d, v) :: env) := rfl
theorem c_drwn (m : List Blk) (d : Nat) (r : List IOp) (env : List (Nat × V)) : drwC call m d r env none = none := rfl
theorem c_drwg_tt (m : List Blk) (t : Nat) (d : Nat) (i : I) (r : List IOp) (env : List (Nat × V)) : drwG call m t true d i r env (.c (.bool true)) = drwC call m d r ((t, .c (.bool true)) :: env) (stepD call ((t, .c (.bool true)) :: env) m i) := rfl
theorem c_drwg_ff (m : List Blk) (t : Nat) (d : Nat) (i : I) (r : List IOp) (env : List (Nat × V)) : drwG call m t false d i r env (.c (.bool false)) = drwC call m d r ((t, .c (.bool false)) :: env) (stepD call ((t, .c (.bool false)) :: env) m i) := rfl
theorem c_drwg_tf (m : List Blk) (t : Nat) (d : Nat) (i : I) (r : List IOp) (env : List (Nat × V)) : drwG call m t true d i r env (.c (.bool false)) = execD call m r ((d, .c .undef) :: (t, .c (.bool false)) :: env) := rfl
theorem c_drwg_ft (m : List Blk) (t : Nat) (d : Nat) (i : I) (r : List IOp) (env : List (Nat × V)) : drwG call m t false d i r env (.c (.bool true)) = execD call m r ((d, .c .undef) :: (t, .c (.bool true)) :: env) := rfl
theorem c_drwg_u (m : List Blk) (t : Nat) (b : Bool) (d : Nat) (i : I) (r : List IOp) (env : List (Nat × V)) : drwG call m t b d i r env (.c .undef) = execD call m r ((d, .c .undef) :: env) := rfl
theorem c_qui (st : St) (v : V) : quiC st (some v) = some (v, st) := rfl
theorem c_quin (st : St) : quiC st none = none := rfl
theorem c_quii (st : St) (c : Prop) [Decidable c] (x y : Option V) : quiC st (if c then x else y) = if c then quiC st x else quiC st y := by split <;> rfl
theorem c_cal (env : List (Nat × V)) (m : List Blk) (e : Nat) (w : Bool) (v : V) (m' : List Blk) : calC ⟨env, m, e, w⟩ (some ⟨v, m', 0, false⟩) = some (v, ⟨env, m', e, w⟩) := by
  simp [calC, mx]
  intro h; exact h.symm
theorem c_cal2 (env : List (Nat × V)) (m : List Blk) (e : Nat) (w : Bool) (v : V) (m' : List Blk) (e' : Nat) : calC ⟨env, m, e, w⟩ (some ⟨v, m', e', true⟩) = some (v, ⟨env, m', mx e (mx e' m.length), true⟩) := by simp [calC]
theorem c_dal (m : List Blk) (v : V) (m' : List Blk) (e : Nat) : dalC m (some ⟨v, m', e, false⟩) = guard' (m'.length = m.length ∧ v.hard = true) (some v) := by simp [dalC, guard']
theorem c_reg (st : St) : regC (some st) = some (.norm, st) := rfl
theorem c_regn : regC none = none := rfl
theorem c_regi (c : Prop) [Decidable c] (x y : Option St) : regC (if c then x else y) = if c then regC x else regC y := by split <;> rfl
theorem c_rdw (env env' : List (Nat × V)) (m : List Blk) (e : Nat) (w : Bool) : rdwC ⟨env, m, e, w⟩ (some env') = some (.norm, ⟨env', m, e, w⟩) := rfl
theorem c_seq (b : IC) : seqC call L n0 kp b (some (.norm, st)) = exec call L n0 kp b st := rfl
theorem c_seqx (b : IC) (j : Nat) : seqC call L n0 kp b (some (.exit j, st)) = some (.exit j, st) := rfl
theorem c_seqr (b : IC) : seqC call L n0 kp b (some (.ret, st)) = some (.ret, st) := rfl
theorem c_seqn (b : IC) : seqC call L n0 kp b none = none := rfl
theorem c_seqi (b : IC) (c : Prop) [Decidable c] (x y : Option (Ex × St)) : seqC call L n0 kp b (if c then x else y) = if c then seqC call L n0 kp b x else seqC call L n0 kp b y := by split <;> rfl
theorem c_cndt (a b : IC) : cndC call L n0 kp a b st (.c (.bool true)) = exec call L n0 kp a st := rfl
theorem c_cndf (a b : IC) : cndC call L n0 kp a b st (.c (.bool false)) = exec call L n0 kp b st := rfl
theorem c_cndd (a b : IC) (c : Prop) [Decidable c] : cndC call L n0 kp a b st (.c (.bool (decide c))) = if c then exec call L n0 kp a st else exec call L n0 kp b st := by
  by_cases h : c <;> simp [cndC, V.bool?, h]
theorem c_cndn (a b : IC) (x : Bool) : cndC call L n0 kp a b st (.c (.bool (!x))) = cndC call L n0 kp b a st (.c (.bool x)) := by cases x <;> rfl
theorem c_opsg_d (t : Nat) (b : Bool) (d : Option Nat) (i : I) (r : List IOp) (c : Prop) [Decidable c] : opsG call n0 t b d i r st (.c (.bool (decide c))) = if c then opsG call n0 t b d i r st (.c (.bool true)) else opsG call n0 t b d i r st (.c (.bool false)) := by
  by_cases h : c <;> simp [h]
theorem c_drwg_d (m : List Blk) (t : Nat) (b : Bool) (d : Nat) (i : I) (r : List IOp) (env : List (Nat × V)) (c : Prop) [Decidable c] : drwG call m t b d i r env (.c (.bool (decide c))) = if c then drwG call m t b d i r env (.c (.bool true)) else drwG call m t b d i r env (.c (.bool false)) := by
  by_cases h : c <;> simp [h]
theorem c_drwi (m : List Blk) (d : Nat) (r : List IOp) (env : List (Nat × V)) (c : Prop) [Decidable c] (x y : Option V) : drwC call m d r env (if c then x else y) = if c then drwC call m d r env x else drwC call m d r env y := by split <;> rfl
theorem c_rdwi (c : Prop) [Decidable c] (x y : Option (List (Nat × V))) : rdwC st (if c then x else y) = if c then rdwC st x else rdwC st y := by split <;> rfl
theorem c_beq (a b : Int) : (a == b) = decide (a = b) := rfl
theorem c_bne (a b : Int) : (a != b) = !decide (a = b) := rfl
theorem c_blk (id : Nat) (ka : Option (List Nat)) : blkC n0 id ka (some (.norm, st)) = some (.norm, trim n0 ka st) := rfl
theorem c_blkx (id : Nat) (ka : Option (List Nat)) : blkC n0 id ka (some (.exit id, st)) = some (.norm, trim n0 ka st) := by simp [blkC]
theorem c_blky (id j : Nat) (ka : Option (List Nat)) (h : j ≠ id) : blkC n0 id ka (some (.exit j, st)) = some (.exit j, st) := by simp [blkC, h]
theorem c_blkr (id : Nat) (ka : Option (List Nat)) : blkC n0 id ka (some (.ret, st)) = some (.ret, st) := rfl
theorem c_blkn (id : Nat) (ka : Option (List Nat)) : blkC n0 id ka none = none := rfl
theorem c_blki (id : Nat) (ka : Option (List Nat)) (c : Prop) [Decidable c] (x y : Option (Ex × St)) : blkC n0 id ka (if c then x else y) = if c then blkC n0 id ka x else blkC n0 id ka y := by split <;> rfl
theorem c_runr (res : List IR) : runC n0 res (some (.ret, st)) = finC n0 st (resAll st res) := rfl
theorem c_runn (res : List IR) : runC n0 res (some (.norm, st)) = finC n0 st (resAll st res) := rfl
theorem c_run0 (res : List IR) : runC n0 res none = none := rfl
theorem c_runi (res : List IR) (c : Prop) [Decidable c] (x y : Option (Ex × St)) : runC n0 res (if c then x else y) = if c then runC n0 res x else runC n0 res y := by split <;> rfl
theorem c_fin (vs : List V) : finC n0 st (some vs) = some (fin n0 (resV vs) st) := rfl
theorem k_res (r : IR) (l : List IR) : resAll st (r :: l) = resC st l (res1 st r) := rfl
theorem k_res0 : resAll st [] = some [] := rfl
theorem c_res (l : List IR) (v : V) : resC st l (some v) = resD v (resAll st l) := rfl
theorem c_resd (v : V) (vs : List V) : resD v (some vs) = some (v :: vs) := rfl
/-! One step. -/
theorem q_call (f : FuncId) (args : List Opd) : stepL call n0 st (.call f args) = calC st (call f (args.map (·.ev st.env)) st.mem) := rfl
def cavC (call : FuncId → List V → List Blk → Option Ret) (st : St) (args : List Opd) (x : V) : Option (V × St) := match x with
  | .c (.fn f) => calC st (call f (args.map (·.ev st.env)) st.mem)
  | _ => none
theorem q_callv (x : Opd) (args : List Opd) : stepL call n0 st (.callv x args) = cavC call st args (x.ev st.env) := by
  simp only [stepL, cavC]
  cases x.ev st.env with
  | c y => cases y <;> rfl
  | agg l => rfl
  | tup l => rfl
theorem c_cav (args : List Opd) (f : FuncId) : cavC call st args (.c (.fn f)) = calC st (call f (args.map (·.ev st.env)) st.mem) := rfl
theorem q_mov (x : Opd) : stepL call n0 st (.mov x) = some (x.ev st.env, st) := rfl
theorem q_pick (c a b : Opd) : stepL call n0 st (.pick c a b) = quiC st (stepQ st.env st.mem (.pick c a b)) := rfl
theorem q_load1 (a : Opd) : stepL call n0 st (.load1 a) = quiC st (stepQ st.env st.mem (.load1 a)) := rfl
theorem q_loadN (a : Opd) (n : Nat) : stepL call n0 st (.loadN a n) = quiC st (stepQ st.env st.mem (.loadN a n)) := rfl
theorem q_fld (a : Opd) (o : Nat) : stepL call n0 st (.fld a o) = quiC st (stepQ st.env st.mem (.fld a o)) := rfl
theorem q_ixa (a i : Opd) (n s : Nat) : stepL call n0 st (.ixa a i n s) = quiC st (stepQ st.env st.mem (.ixa a i n s)) := rfl
theorem q_ixs (a i : Opd) (s : Nat) : stepL call n0 st (.ixs a i s) = quiC st (stepQ st.env st.mem (.ixs a i s)) := rfl
theorem q_ext (a : Opd) (o : Nat) : stepL call n0 st (.ext a o) = quiC st (stepQ st.env st.mem (.ext a o)) := rfl
theorem q_bin (op : BinOp) (x y : Opd) : stepL call n0 st (.bin op x y) = quiC st (bin' op (x.ev st.env) (y.ev st.env)) := rfl
theorem q_binb (ne : Bool) (x y : Opd) : stepL call n0 st (.binb ne x y) = quiC st (stepQ st.env st.mem (.binb ne x y)) := rfl
theorem q_bins (op : BinOp) (x y : Opd) : stepL call n0 st (.bins op x y) = quiC st (stepQ st.env st.mem (.bins op x y)) := rfl
theorem q_un (op : UnOp) (x : Opd) : stepL call n0 st (.un op x) = quiC st (un' op (x.ev st.env)) := rfl
theorem q_eqa (ne : Bool) (ks : List (Option IntKind)) (x y : Opd) : stepL call n0 st (.eqa ne ks x y) = quiC st (stepQ st.env st.mem (.eqa ne ks x y)) := rfl
theorem q_len (x : Opd) : stepL call n0 st (.len x) = quiC st (stepQ st.env st.mem (.len x)) := rfl
theorem q_lens (x : Opd) : stepL call n0 st (.lens x) = quiC st (stepQ st.env st.mem (.lens x)) := rfl
theorem q_sla (a : Opd) (n e : Nat) (lo hi : Option Opd) : stepL call n0 st (.sla a n e lo hi) = quiC st (stepQ st.env st.mem (.sla a n e lo hi)) := rfl
theorem q_sls (a : Opd) (e : Nat) (lo hi : Option Opd) : stepL call n0 st (.sls a e lo hi) = quiC st (stepQ st.env st.mem (.sls a e lo hi)) := rfl
theorem q_bld (z : List C) (ps : List (Nat × Nat × Opd)) : stepL call n0 st (.bld z ps) = quiC st (stepQ st.env st.mem (.bld z ps)) := rfl
def stoC (n0 : Nat) (st : St) (a : V) (n : Nat) (x : Option (List C)) : Option (V × St) := x.bind fun cs => match a with
    | .c (.ptr b off tot) => guard' (cs.length = n) ((wrt st n0 b off tot cs).bind fun st' => some (.c .undef, st'))
    | _ => none
theorem q_store (a x : Opd) (n : Nat) : stepL call n0 st (.store a x n) = stoC n0 st (a.ev st.env) n (x.ev st.env).cells? := by
  simp only [stepL, stoC]
  cases a.ev st.env with
  | c y => cases y <;> cases (x.ev st.env).cells? <;> rfl
  | agg l => cases (x.ev st.env).cells? <;> rfl
  | tup l => cases (x.ev st.env).cells? <;> rfl
def wriC (st : St) (n0 b off : Nat) (cs : List C) (x : Option Blk) : Option (V × St) := x.bind fun blk => guard' (blk.own = true ∧ off + cs.length ≤ blk.cs.length)
    (some (.c .undef, { st with mem := st.mem.set b { blk with cs := lay blk.cs off cs }, esc := mx st.esc (refsL cs), wr := st.wr || decide (b < n0) }))
theorem c_sto (b off tot n : Nat) (cs : List C) : stoC n0 st (.c (.ptr b off tot)) n (some cs) = guard' (cs.length = n) (wriC st n0 b off cs (live st.mem b tot)) := by
  simp only [stoC, Option.bind_some, wrt, wriC]
  congr 1
  cases live st.mem b tot with
  | none => rfl
  | some blk =>
    simp only [Option.bind_some, guard']
    split <;> rfl
theorem c_wri (env : List (Nat × V)) (m : List Blk) (e : Nat) (w : Bool) (b off : Nat) (cs cs' : List C) (ty es : Nat) : wriC ⟨env, m, e, w⟩ n0 b off cs' (some ⟨cs, ty, es, true⟩) = guard' (off + cs'.length ≤ cs.length) (some (.c .undef, ⟨env, m.set b ⟨lay cs off cs', ty, es, true⟩, mx e (refsL cs'), w || decide (b < n0)⟩)) := by
  simp [wriC]
theorem q_alloc (z : List C) (ty : TypeId) (env : List (Nat × V)) (m : List Blk) (e : Nat) (w : Bool) : stepL call n0 ⟨env, m, e, w⟩ (.alloc z ty) = some (.c (.ptr m.length 0 z.length), ⟨env, m ++ [⟨z, ty, 0, true⟩], mx e (refsL z), w⟩) := rfl
def boxC (st : St) (ty : TypeId) (x : Option (List C)) : Option (V × St) := x.bind fun z => some (.c (.ptr st.mem.length 0 z.length), { st with mem := st.mem ++ [⟨z, ty, 0, true⟩], esc := mx st.esc (refsL z) })
theorem q_box (x : Opd) (ty : TypeId) : stepL call n0 st (.box x ty) = boxC st ty (x.ev st.env).cells? := rfl
theorem c_box (z : List C) (ty : TypeId) (env : List (Nat × V)) (m : List Blk) (e : Nat) (w : Bool) : boxC ⟨env, m, e, w⟩ ty (some z) = some (.c (.ptr m.length 0 z.length), ⟨env, m ++ [⟨z, ty, 0, true⟩], mx e (refsL z), w⟩) := rfl
theorem q_mks (n : Opd) (z : List C) (ty : TypeId) (bytes : Nat) (env : List (Nat × V)) (m : List Blk) (e : Nat) (w : Bool) : stepL call n0 ⟨env, m, e, w⟩ (.mks n z ty bytes) = (n.ev env).int?.bind fun l => guard' (0 ≤ l ∧ l * bytes ≤ 140737488355328 ∧ 0 < bytes ∧ 0 < z.length)
      (some (.c (.sl m.length 0 l.toNat (l.toNat * z.length)), ⟨env, m ++ [⟨rep l.toNat z, ty, z.length, true⟩], mx e (refsL z), w⟩)) := rfl
def litC (st : St) (n esz : Nat) (ty : TypeId) (x : Option (List C)) : Option (V × St) := x.bind fun cs => guard' (cs.length = n * esz) (some (.c (.sl st.mem.length 0 n (n * esz)), { st with mem := st.mem ++ [⟨cs, ty, esz, true⟩], esc := mx st.esc (refsL cs) }))
theorem q_lit (n esz : Nat) (z : List C) (ps : List (Nat × Opd)) (ty : TypeId) : stepL call n0 st (.lit n esz z ps ty) = guard' (n * esz ≤ 16777216 ∧ z.length = esz ∧ 0 < esz) (litC st n esz ty (layAll st.env (rep n z) (ps.map fun (i, x) => (i * esz, esz, x)))) := rfl
theorem c_lit (n esz : Nat) (ty : TypeId) (cs : List C) (env : List (Nat × V)) (m : List Blk) (e : Nat) (w : Bool) : litC ⟨env, m, e, w⟩ n esz ty (some cs) = guard' (cs.length = n * esz) (some (.c (.sl m.length 0 n (n * esz)), ⟨env, m ++ [⟨cs, ty, esz, true⟩], mx e (refsL cs), w⟩)) := rfl
def appC (st : St) (n0 : Nat) (ty : TypeId) (esz bytes : Nat) (s : V) (x : Option (Nat × List C)) : Option (V × St) := x.bind fun p => match s with
    | .c .nils => if p.1 = 0 then some (.c .nils, st) else guard' (p.1 * bytes ≤ 140737488355328 ∧ 0 < esz ∧ 0 < bytes)
        (some (.c (.sl st.mem.length 0 p.1 (p.1 * esz)), { st with mem := st.mem ++ [⟨p.2, ty, esz, true⟩], esc := mx st.esc (refsL p.2) }))
    | .c (.sl b off len tot) => (live st.mem b tot).bind fun blk => guard' (blk.own = true ∧ blk.esz = esz ∧ 0 < esz ∧ blk.ty = ty ∧ off = 0 ∧ tot = len * esz ∧ (len + p.1) * bytes ≤ 140737488355328 ∧ 0 < bytes)
        (some (.c (.sl b 0 (len + p.1) (tot + p.1 * esz)), { st with mem := st.mem.set b { blk with cs := blk.cs ++ p.2 }, esc := mx st.esc (refsL p.2), wr := st.wr || decide (b < n0) }))
    | _ => none
theorem q_app (s x : Opd) (ty : TypeId) (esz bytes : Nat) : stepL call n0 st (.app s x ty esz bytes) = appC st n0 ty esz bytes (s.ev st.env) (src st.env st.mem esz x) := rfl
def appB (st : St) (n0 : Nat) (ty : TypeId) (esz bytes : Nat) (b len tot n : Nat) (cs : List C) (x : Option Blk) : Option (V × St) := x.bind fun blk => guard' (blk.own = true ∧ blk.esz = esz ∧ 0 < esz ∧ blk.ty = ty ∧ tot = len * esz ∧ (len + n) * bytes ≤ 140737488355328 ∧ 0 < bytes)
        (some (.c (.sl b 0 (len + n) (tot + n * esz)), { st with mem := st.mem.set b { blk with cs := blk.cs ++ cs }, esc := mx st.esc (refsL cs), wr := st.wr || decide (b < n0) }))
theorem c_app (ty : TypeId) (esz bytes b len tot n : Nat) (cs : List C) : appC st n0 ty esz bytes (.c (.sl b 0 len tot)) (some (n, cs)) = appB st n0 ty esz bytes b len tot n cs (live st.mem b tot) := by
  simp [appC, appB]
theorem c_appn (ty : TypeId) (esz bytes n : Nat) (cs : List C) (env : List (Nat × V)) (m : List Blk) (e : Nat) (w : Bool) : appC ⟨env, m, e, w⟩ n0 ty esz bytes (.c .nils) (some (n, cs)) = if n = 0 then some (.c .nils, ⟨env, m, e, w⟩) else guard' (n * bytes ≤ 140737488355328 ∧ 0 < esz ∧ 0 < bytes) (some (.c (.sl m.length 0 n (n * esz)), ⟨env, m ++ [⟨cs, ty, esz, true⟩], mx e (refsL cs), w⟩)) := rfl
theorem c_appB (env : List (Nat × V)) (m : List Blk) (e : Nat) (w : Bool) (ty : TypeId) (esz bytes b len tot n : Nat) (cs cs' : List C) : appB ⟨env, m, e, w⟩ n0 ty esz bytes b len tot n cs' (some ⟨cs, ty, esz, true⟩) =
    guard' (0 < esz ∧ tot = len * esz ∧ (len + n) * bytes ≤ 140737488355328 ∧ 0 < bytes) (some (.c (.sl b 0 (len + n) (tot + n * esz)), ⟨env, m.set b ⟨cs ++ cs', ty, esz, true⟩, mx e (refsL cs'), w || decide (b < n0)⟩)) := by
  simp [appB]
/-! Reads by value. -/
def lenV (m : List Blk) : V → Option V
  | .c .nils => some (.c (.int .i64 0))
  | .c (.sl b _ n tot) => (live m b tot).bind fun _ => some (.c (.int .i64 n))
  | _ => none
theorem s_len (x : Opd) (env : List (Nat × V)) (m : List Blk) : stepQ env m (.len x) = lenV m (x.ev env) := by
  simp only [stepQ]
  cases x.ev env with
  | c y => cases y <;> rfl
  | agg l => rfl
  | tup l => rfl
def ixsV (m : List Blk) (esz : Nat) : V → V → Option V
  | .c (.sl b o len tot), .c (.int _ n) => (live m b tot).bind fun _ => guard' (0 ≤ n ∧ n < len) (some (.c (.ptr b (o + n.toNat * esz) tot)))
  | _, _ => none
theorem s_ixs (x i : Opd) (esz : Nat) (env : List (Nat × V)) (m : List Blk) : stepQ env m (.ixs x i esz) = ixsV m esz (x.ev env) (i.ev env) := by
  simp only [stepQ]
  cases x.ev env with
  | c y =>
    cases i.ev env with
    | c z => cases y <;> cases z <;> rfl
    | agg l => cases y <;> rfl
    | tup l => cases y <;> rfl
  | agg l => rfl
  | tup l => rfl
def ld1V (m : List Blk) : V → Option V
  | .c (.ptr b off tot) => (live m b tot).bind fun blk => (blk.cs[off]?).bind fun c => some (.c c)
  | _ => none
theorem s_load1 (x : Opd) (env : List (Nat × V)) (m : List Blk) : stepQ env m (.load1 x) = ld1V m (x.ev env) := by
  simp only [stepQ]
  cases x.ev env with
  | c y => cases y <;> rfl
  | agg l => rfl
  | tup l => rfl
/-- A slice's element's place. -/
def ptrOf : C → Nat → C
  | .sl b off _ tot, i => .ptr b (off + i) tot
  | c, _ => c
theorem Sl.lenV {m : List Blk} {v : C} {xs : List Int} (h : Sl m v xs) : lenV m (.c v) = some (vi xs.length) := by
  rcases h with ⟨rfl, rfl⟩ | ⟨b, off, tot, blk, rfl, h2, h3, h4⟩
  · rfl
  · simp [Go.Proofs.Ytmifcdeajjgdpaa.lenV, h2]
theorem Sl.ixV {m : List Blk} {v : C} {xs : List Int} (h : Sl m v xs) {i : Int} (hi : 0 ≤ i ∧ i < xs.length) : ixsV m 1 (.c v) (vi i) = some (.c (ptrOf v i.toNat)) := by
  rcases h with ⟨rfl, rfl⟩ | ⟨b, off, tot, blk, rfl, h2, h3, h4⟩
  · simp at hi; omega
  · simp [ixsV, h2, guard', hi, ptrOf]
theorem Sl.ldV {m : List Blk} {v : C} {xs : List Int} (h : Sl m v xs) {i : Nat} (hi : i < xs.length) : ld1V m (.c (ptrOf v i)) = some (vi (nth xs i)) := by
  rcases h with ⟨rfl, rfl⟩ | ⟨b, off, tot, blk, rfl, h2, h3, h4⟩
  · simp at hi
  · have := h4 i hi
    simp [ld1V, h2, ptrOf, this]
theorem Sl.take {m : List Blk} {v : C} {xs : List Int} (h : Sl m v xs) : v.refs ≤ m.length := by
  rcases h with ⟨rfl, rfl⟩ | ⟨b, off, tot, blk, rfl, h2, h3, h4⟩
  · exact Nat.zero_le _
  · exact live_lt h2
theorem d_mov (env : List (Nat × V)) (m : List Blk) (x : Opd) : stepD call env m (.mov x) = some (x.ev env) := rfl
theorem d_pick (env : List (Nat × V)) (m : List Blk) (c a b : Opd) : stepD call env m (.pick c a b) = stepQ env m (.pick c a b) := rfl
theorem d_load1 (env : List (Nat × V)) (m : List Blk) (a : Opd) : stepD call env m (.load1 a) = stepQ env m (.load1 a) := rfl
theorem d_loadN (env : List (Nat × V)) (m : List Blk) (a : Opd) (n : Nat) : stepD call env m (.loadN a n) = stepQ env m (.loadN a n) := rfl
theorem d_fld (env : List (Nat × V)) (m : List Blk) (a : Opd) (o : Nat) : stepD call env m (.fld a o) = stepQ env m (.fld a o) := rfl
theorem d_ixa (env : List (Nat × V)) (m : List Blk) (a i : Opd) (n s : Nat) : stepD call env m (.ixa a i n s) = stepQ env m (.ixa a i n s) := rfl
theorem d_ixs (env : List (Nat × V)) (m : List Blk) (a i : Opd) (s : Nat) : stepD call env m (.ixs a i s) = stepQ env m (.ixs a i s) := rfl
theorem d_ext (env : List (Nat × V)) (m : List Blk) (a : Opd) (o : Nat) : stepD call env m (.ext a o) = stepQ env m (.ext a o) := rfl
theorem d_bin (env : List (Nat × V)) (m : List Blk) (op : BinOp) (x y : Opd) : stepD call env m (.bin op x y) = bin' op (x.ev env) (y.ev env) := rfl
theorem d_binb (env : List (Nat × V)) (m : List Blk) (ne : Bool) (x y : Opd) : stepD call env m (.binb ne x y) = stepQ env m (.binb ne x y) := rfl
theorem d_bins (env : List (Nat × V)) (m : List Blk) (op : BinOp) (x y : Opd) : stepD call env m (.bins op x y) = stepQ env m (.bins op x y) := rfl
theorem d_un (env : List (Nat × V)) (m : List Blk) (op : UnOp) (x : Opd) : stepD call env m (.un op x) = un' op (x.ev env) := rfl
theorem d_eqa (env : List (Nat × V)) (m : List Blk) (ne : Bool) (ks : List (Option IntKind)) (x y : Opd) : stepD call env m (.eqa ne ks x y) = stepQ env m (.eqa ne ks x y) := rfl
theorem d_len (env : List (Nat × V)) (m : List Blk) (x : Opd) : stepD call env m (.len x) = stepQ env m (.len x) := rfl
theorem d_lens (env : List (Nat × V)) (m : List Blk) (x : Opd) : stepD call env m (.lens x) = stepQ env m (.lens x) := rfl
theorem d_sls (env : List (Nat × V)) (m : List Blk) (a : Opd) (e : Nat) (lo hi : Option Opd) : stepD call env m (.sls a e lo hi) = stepQ env m (.sls a e lo hi) := rfl
theorem d_sla (env : List (Nat × V)) (m : List Blk) (a : Opd) (n e : Nat) (lo hi : Option Opd) : stepD call env m (.sla a n e lo hi) = stepQ env m (.sla a n e lo hi) := rfl
theorem d_bld (env : List (Nat × V)) (m : List Blk) (z : List C) (ps : List (Nat × Nat × Opd)) : stepD call env m (.bld z ps) = stepQ env m (.bld z ps) := rfl
theorem d_call (f : FuncId) (args : List Opd) (env : List (Nat × V)) (m : List Blk) : stepD call env m (.call f args) = dalC m (call f (args.map (·.ev env)) m) := rfl
def davC (call : FuncId → List V → List Blk → Option Ret) (env : List (Nat × V)) (m : List Blk) (args : List Opd) (x : V) : Option V := match x with
  | .c (.fn f) => dalC m (call f (args.map (·.ev env)) m)
  | _ => none
theorem d_callv (x : Opd) (args : List Opd) (env : List (Nat × V)) (m : List Blk) : stepD call env m (.callv x args) = davC call env m args (x.ev env) := by
  simp only [stepD, davC]
  cases x.ev env with
  | c y => cases y <;> rfl
  | agg l => rfl
  | tup l => rfl
theorem c_dav (args : List Opd) (f : FuncId) (env : List (Nat × V)) (m : List Blk) : davC call env m args (.c (.fn f)) = dalC m (call f (args.map (·.ev env)) m) := rfl
end Go.Proofs.Ytmifcdeajjgdpaa
