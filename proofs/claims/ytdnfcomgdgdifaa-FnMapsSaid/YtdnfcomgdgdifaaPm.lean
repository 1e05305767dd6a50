/-
  Chains, in plain terms: their paths; put, dropped, told and ranged.
-/
import Derived.Test.YtdnfcomgdgdifaaBA
import Derived.Test.YtdnfcomgdgdifaaCB
set_option linter.unusedVariables false
set_option linter.unusedSimpArgs false
namespace Go.Proofs.Ytdnfcomgdgdifaa

/-- The places from one on, to the end. -/
inductive Pth (f : Nat → Nd) : Int → List Nat → Prop
  | nil : Pth f (-1) []
  | cons {q : Nat} {l : List Nat} (hq : q < 16) (hu : (f q).u = true) (h : Pth f (f q).c l) : Pth f q (q :: l)
def headP : List Nat → Int
  | [] => -1
  | q :: _ => q
def lastP : Int → List Nat → Int
  | ah, [] => ah
  | _, q :: l => lastP q l
def exP : List Nat → Nat
  | [] => 0
  | _ :: _ => 1
theorem Pth.head {f : Nat → Nd} {p : Int} {l : List Nat} (h : Pth f p l) : p = headP l := by cases h <;> rfl
theorem Pth.inv {f : Nat → Nd} {p : Int} {q : Nat} {l : List Nat} (h : Pth f p (q :: l)) : p = q ∧ q < 16 ∧ (f q).u = true ∧ Pth f (f q).c l := by
  cases h with | cons hq hu h => exact ⟨rfl, hq, hu, h⟩
theorem Pth.mem {f : Nat → Nd} {p : Int} {l : List Nat} (h : Pth f p l) : ∀ q ∈ l, q < 16 ∧ (f q).u = true := by
  induction h with
  | nil => intro q hq; cases hq
  | cons hq hu h ih =>
    intro x hx
    rcases List.mem_cons.1 hx with rfl | hx
    · exact ⟨hq, hu⟩
    · exact ih x hx
theorem Pth.congr {f g : Nat → Nd} {p : Int} {l : List Nat} (h : Pth f p l) (hg : ∀ q ∈ l, (g q).u = (f q).u ∧ (g q).c = (f q).c) : Pth g p l := by
  induction h with
  | nil => exact .nil
  | @cons q l hq hu h ih =>
    obtain ⟨e1, e2⟩ := hg q (by simp)
    exact .cons hq (by rw [e1]; exact hu) (by rw [e2]; exact ih fun x hx => hg x (by simp [hx]))
/-- Behind some places another path is hung. -/
theorem Pth.splice {f g : Nat → Nd} {y : Nat} {x : Int} {l2 l3 : List Nat} : ∀ {l1 : List Nat} {p : Int}, Pth f p (l1 ++ y :: l2) → (∀ q ∈ l1, g q = f q) → g y = { f y with c := x } → Pth g x l3 → Pth g p (l1 ++ y :: l3)
  | [], p, h, _, hy, h3 => by
    obtain ⟨rfl, h1, h2, _⟩ := h.inv
    exact .cons h1 (by rw [hy]; exact h2) (by rw [hy]; exact h3)
  | z :: l1, p, h, hg, hy, h3 => by
    obtain ⟨rfl, h1, h2, h4⟩ := h.inv
    have e := hg z (by simp)
    exact .cons h1 (by rw [e]; exact h2) (by rw [e]; exact Pth.splice (l1 := l1) h4 (fun q hq => hg q (by simp [hq])) hy h3)
theorem asc_congr {f g : Nat → Nd} {l : List Nat} (h : asc f l) (hg : ∀ q ∈ l, (g q).a = (f q).a) : asc g l :=
  List.Pairwise.imp_of_mem (fun hx hy hxy => by rw [hg _ hx, hg _ hy]; exact hxy) h
theorem pth_ch {f : Nat → Nd} : ∀ (n : Nat) (κ p : Int) (l : List Nat), Pth f p l → (∀ q ∈ l, κ < (f q).a) → asc f l → l.length < n → chW f n κ p = some l.length
  | 0, _, _, _, _, _, _, h => by omega
  | n + 1, κ, p, [], h, _, _, _ => by
    have := h.head
    simp only [headP] at this
    subst this
    rfl
  | n + 1, κ, p, q :: l, h, hk, ha, hn => by
    obtain ⟨rfl, h1, h2, h3⟩ := h.inv
    obtain ⟨a1, a2⟩ := List.pairwise_cons.1 ha
    have ih := pth_ch n (f q).a (f q).c l h3 a1 a2 (by simp only [List.length_cons] at hn; omega)
    have ho : okp f κ q = true := okp_iff.2 ⟨by omega, by simpa using h2, by simpa using hk q (by simp)⟩
    simp only [chW, ho, if_true, Int.toNat_natCast, ih]
    rw [if_neg (by omega)]
    rfl
theorem ch_pth {f : Nat → Nd} : ∀ (n : Nat) (κ p : Int) (t : Nat), chW f n κ p = some t → ∃ l, Pth f p l ∧ (∀ q ∈ l, κ < (f q).a) ∧ asc f l ∧ l.length = t
  | 0, _, _, _, h => by cases h
  | n + 1, κ, p, t, h => by
    simp only [chW] at h
    split at h
    · rename_i hp
      injection h with h
      subst h; subst hp
      exact ⟨[], .nil, by simp, .nil, rfl⟩
    · split at h
      · rename_i hp ho
        simp only [Option.map_eq_some_iff] at h
        obtain ⟨t', h1, rfl⟩ := h
        obtain ⟨g1, g2, g3⟩ := okp_iff.1 ho
        obtain ⟨l, i1, i2, i3, i4⟩ := ch_pth n _ _ _ h1
        obtain ⟨q, rfl⟩ : ∃ q : Nat, p = q := ⟨p.toNat, by omega⟩
        rw [Int.toNat_natCast] at *
        refine ⟨q :: l, .cons (by omega) g2 i1, fun x hx => ?_, List.pairwise_cons.2 ⟨i2, i3⟩, by rw [List.length_cons, i4]⟩
        rcases List.mem_cons.1 hx with rfl | hx
        · exact g3
        · have := i2 x hx; omega
      · cases h
/-- A right chain's places, in order. -/
def Chn (f : Nat → Nd) (a : Int) (l : List Nat) : Prop := Pth f a l ∧ asc f l ∧ (∀ i, i < 16 → (f i).u = l.contains i) ∧ ∀ i, i < 16 → nodeOk (f i) = true
theorem Chn.len {f : Nat → Nd} {a : Int} {l : List Nat} (h : Chn f a l) : l.length = usedN f ∧ l.length ≤ 16 := by
  have h1 := cn_mem (asc_nodup h.2.1) fun x hx => (h.1.mem x hx).1
  have h2 := cn_congr 16 (q := fun i => (f i).u) (q' := fun i => l.contains i) h.2.2.1
  have h3 : l.length = usedN f := by unfold usedN; omega
  exact ⟨h3, by rw [h3]; exact cn_le 16⟩
theorem chain_spec {f : Nat → Nd} {a : Int} (h : chainOk f a = true) : ∃ l, Chn f a l := by
  simp only [chainOk, Bool.and_eq_true, decide_eq_true_eq] at h
  obtain ⟨l, h1, h2, h3, h4⟩ := ch_pth _ _ _ _ h.2
  have hc := cn_mem (asc_nodup h3) fun x hx => (h1.mem x hx).1
  refine ⟨l, h1, h3, fun i hi => ?_, h.1⟩
  cases hm : l.contains i with
  | true => exact (h1.mem i (by simpa using hm)).2
  | false =>
    cases hu : (f i).u with
    | false => rfl
    | true =>
      have := cn_all (q := fun i => l.contains i) (q' := fun i => (f i).u) (n := 16) (fun i _ hx => (h1.mem i (by simpa using hx)).2) (by rw [hc]; exact h4) i hi hu
      rw [this] at hm
      cases hm
theorem Chn.ok {f : Nat → Nd} {a : Int} {l : List Nat} (h : Chn f a l) : chainOk f a = true := by
  simp only [chainOk, Bool.and_eq_true, decide_eq_true_eq]
  refine ⟨h.2.2.2, ?_⟩
  rw [← h.len.1]
  refine pth_ch 17 κ0 a l h.1 (fun q hq => ?_) h.2.1 (by have := h.len.2; omega)
  obtain ⟨h1, h2⟩ := h.1.mem q hq
  have := h.2.2.2 q h1
  simp only [nodeOk, h2, if_true, Bool.and_eq_true, isVal, inB_iff] at this
  unfold κ0
  omega
theorem Chn.key {f : Nat → Nd} {a : Int} {l : List Nat} (h : Chn f a l) {q : Nat} (hq : q ∈ l) : q < 16 ∧ (f q).u = true ∧ isVal (f q).a = true ∧ isVal (f q).b = true := by
  obtain ⟨h1, h2⟩ := h.1.mem q hq
  have := h.2.2.2 q h1
  simp only [nodeOk, h2, if_true, Bool.and_eq_true] at this
  exact ⟨h1, h2, this⟩

/-! The walk to a key. -/
theorem wk_yes {f : Nat → Nd} {key : Int} {l2 : List Nat} (h2 : ∀ q ∈ l2, key ≤ (f q).a) : ∀ (l1 : List Nat) (n : Nat) (ah p : Int), Pth f p (l1 ++ l2) → (∀ q ∈ l1, (f q).a < key) → l1.length + exP l2 ≤ n → wk f key n ah p = (lastP ah l1, headP l2, l1.length + exP l2, true)
  | [], n, ah, p, h, _, hn => by
    cases l2 with
    | nil =>
      have := h.head
      simp only [List.nil_append, headP] at this
      subst this
      rw [wk_end]; rfl
    | cons q l2 =>
      obtain ⟨rfl, _⟩ := h.inv
      obtain ⟨n, rfl⟩ : ∃ k, n = k + 1 := ⟨n - 1, by simp only [exP] at hn; omega⟩
      rw [wk_hit (by omega) (by simpa using h2 q (by simp))]
      rfl
  | x :: l1, n, ah, p, h, h1, hn => by
    obtain ⟨rfl, _, _, h3⟩ := h.inv
    simp only [List.length_cons] at hn
    obtain ⟨n, rfl⟩ : ∃ k, n = k + 1 := ⟨n - 1, by omega⟩
    have hk := h1 x (by simp)
    rw [wk_go (by omega) (by rw [Int.toNat_natCast]; omega)]
    simp only [Int.toNat_natCast]
    rw [wk_yes h2 l1 n _ _ h3 (fun q hq => h1 q (by simp [hq])) (by omega)]
    simp only [lastP, List.length_cons]
    rw [show l1.length + exP l2 + 1 = l1.length + 1 + exP l2 by omega]
theorem wk_no {f : Nat → Nd} {key : Int} {l2 : List Nat} : ∀ (l1 : List Nat) (n : Nat) (ah p : Int), Pth f p (l1 ++ l2) → (∀ q ∈ l1, (f q).a < key) → n < l1.length + exP l2 → (wk f key n ah p).2.2.2 = false ∧ (wk f key n ah p).2.2.1 = n
  | [], n, ah, p, h, _, hn => by
    cases l2 with
    | nil => simp [exP] at hn
    | cons q l2 =>
      obtain ⟨rfl, _⟩ := h.inv
      obtain rfl : n = 0 := by simp only [exP, List.length_nil] at hn; omega
      rw [wk_zero (by omega)]
      exact ⟨rfl, rfl⟩
  | x :: l1, 0, ah, p, h, _, _ => by
    obtain ⟨rfl, _⟩ := h.inv
    rw [wk_zero (by omega)]
    exact ⟨rfl, rfl⟩
  | x :: l1, n + 1, ah, p, h, h1, hn => by
    obtain ⟨rfl, _, _, h3⟩ := h.inv
    simp only [List.length_cons] at hn
    have hk := h1 x (by simp)
    rw [wk_go (by omega) (by rw [Int.toNat_natCast]; omega)]
    simp only [Int.toNat_natCast]
    obtain ⟨i1, i2⟩ := wk_no (key := key) l1 n (x : Int) (f x).c h3 (fun q hq => h1 q (by simp [hq])) (by omega)
    exact ⟨i1, by rw [i2]⟩
/-- A path parted by a key. -/
theorem asc_part {f : Nat → Nd} (key : Int) : ∀ {l : List Nat}, asc f l → ∃ l1 l2, l = l1 ++ l2 ∧ (∀ q ∈ l1, (f q).a < key) ∧ ∀ q ∈ l2, key ≤ (f q).a
  | [], _ => ⟨[], [], rfl, by simp, by simp⟩
  | x :: l, h => by
    obtain ⟨a1, a2⟩ := List.pairwise_cons.1 h
    by_cases hx : (f x).a < key
    · obtain ⟨l1, l2, rfl, h1, h2⟩ := asc_part key a2
      refine ⟨x :: l1, l2, rfl, fun q hq => ?_, h2⟩
      rcases List.mem_cons.1 hq with rfl | hq
      · exact hx
      · exact h1 q hq
    · refine ⟨[], x :: l, rfl, by simp, fun q hq => ?_⟩
      rcases List.mem_cons.1 hq with rfl | hq
      · omega
      · have := a1 q hq; omega
theorem lastP_snoc (ah : Int) (y : Nat) : ∀ l : List Nat, lastP ah (l ++ [y]) = y
  | [] => rfl
  | x :: l => by
    show lastP x (l ++ [y]) = y
    exact lastP_snoc x y l
theorem snoc_or (l : List Nat) : l = [] ∨ ∃ l' y, l = l' ++ [y] := by
  rcases List.eq_nil_or_concat l with h | ⟨l', y, h⟩
  · exact .inl h
  · exact .inr ⟨l', y, by rw [h, List.concat_eq_append]⟩
/-- A place hung behind the first part of a path. -/
theorem Pth.link {f g : Nat → Nd} {a x : Int} {l1 l2 l3 : List Nat} (h : Pth f a (l1 ++ l2)) (hg : ∀ q ∈ l1, g q = linkF f (lastP (-1) l1) x q) (hn : l1.Nodup) (h3 : Pth g x l3) : Pth g (linkA a (lastP (-1) l1) x) (l1 ++ l3) := by
  rcases snoc_or l1 with rfl | ⟨l', y, rfl⟩
  · exact h3
  · rw [lastP_snoc] at hg ⊢
    have ha : linkA a (y : Int) x = a := by unfold linkA; rw [if_neg (by omega)]
    have hf : linkF f (y : Int) x = upd f y { f y with c := x } := by unfold linkF; rw [if_neg (by omega)]; rfl
    rw [ha, List.append_assoc]
    rw [hf] at hg
    rw [List.append_assoc] at h
    refine Pth.splice (l2 := l2) h (fun q hq => ?_) ?_ h3
    · rw [hg q (by simp [hq]), upd_ne]
      rintro rfl
      have := (List.nodup_append.1 hn).2.2 q hq q (by simp)
      exact this rfl
    · rw [hg y (by simp), upd_at]
theorem linkF_else {f : Nat → Nd} {l1 : List Nat} {x : Int} {q : Nat} (hq : q ∉ l1) : linkF f (lastP (-1) l1) x q = f q := by
  rcases snoc_or l1 with rfl | ⟨l', y, rfl⟩
  · rfl
  · rw [lastP_snoc]
    unfold linkF
    rw [if_neg (by omega), Int.toNat_natCast, upd_ne]
    rintro rfl
    simp at hq
theorem linkF_abu {f : Nat → Nd} {ah x : Int} {q : Nat} : (linkF f ah x q).a = (f q).a ∧ (linkF f ah x q).b = (f q).b ∧ (linkF f ah x q).u = (f q).u := by
  unfold linkF
  split
  · exact ⟨rfl, rfl, rfl⟩
  · by_cases e : q = ah.toNat
    · subst e; rw [upd_at]; exact ⟨rfl, rfl, rfl⟩
    · rw [upd_ne _ _ e]; exact ⟨rfl, rfl, rfl⟩
theorem nodeOk_abu {x y : Nd} (h : nodeOk x = true) (hu : x.u = true) (e : y.a = x.a ∧ y.b = x.b ∧ y.u = x.u) : nodeOk y = true := by
  unfold nodeOk at h ⊢
  rw [e.2.2, e.1, e.2.1]
  rw [if_pos hu] at h ⊢
  exact h

section
variable {f : Nat → Nd} {a key val : Int} {l l1 l2 : List Nat}
/-- What the walk to a key in a right chain comes to. -/
theorem Chn.part (h : Chn f a l) (key : Int) : ∃ l1 l2, l = l1 ++ l2 ∧ (∀ q ∈ l1, (f q).a < key) ∧ (∀ q ∈ l2, key ≤ (f q).a) ∧
    (if l1.length + exP l2 ≤ 10 then wk f key 10 (-1) a = (lastP (-1) l1, headP l2, l1.length + exP l2, true) else (wk f key 10 (-1) a).2.2.2 = false ∧ (wk f key 10 (-1) a).2.2.1 = 10) := by
  obtain ⟨l1, l2, rfl, h1, h2⟩ := asc_part key h.2.1
  refine ⟨l1, l2, rfl, h1, h2, ?_⟩
  split
  · rename_i hn
    exact wk_yes h2 l1 10 (-1) a h.1 h1 hn
  · exact wk_no l1 10 (-1) a h.1 h1 (by omega)
theorem hasB_iff {l2 : List Nat} : hasB f (headP l2) key = true ↔ ∃ q r, l2 = q :: r ∧ (f q).a = key := by
  cases l2 with
  | nil => simp [hasB, headP]
  | cons q r =>
    have e : hasB f (headP (q :: r)) key = decide ((f q).a = key) := by
      show (decide ((q : Int) ≠ -1) && decide ((f (q : Int).toNat).a = key)) = _
      rw [decide_eq_true (by omega), Bool.true_and, Int.toNat_natCast]
    rw [e, decide_eq_true_eq]
    constructor
    · intro h; exact ⟨q, r, rfl, h⟩
    · rintro ⟨q', r', e2, h⟩
      injection e2 with e2 e3
      subst e2; exact h
theorem Chn.get (h : Chn f a (l1 ++ l2)) (h1 : ∀ q ∈ l1, (f q).a < key) (h2 : ∀ q ∈ l2, key ≤ (f q).a) (hk : isVal key = true) (hn : l1.length + exP l2 ≤ 10) :
    mapGet f a key = if hasB f (headP l2) key = true then ((f (headP l2).toNat).b, ((l1.length + exP l2 : Nat) : Int), 0) else (0, ((l1.length + exP l2 : Nat) : Int), 4) := by
  have hw := wk_yes h2 l1 10 (-1) a h.1 h1 hn
  unfold mapGet
  rw [if_pos ⟨h.ok, hk⟩, hw]
  rfl
theorem Chn.getNo (h : Chn f a (l1 ++ l2)) (h1 : ∀ q ∈ l1, (f q).a < key) (hk : isVal key = true) (hn : ¬ l1.length + exP l2 ≤ 10) : (mapGet f a key).2.2 = 2 := by
  have hw := wk_no l1 10 (-1) a h.1 h1 (by omega)
  unfold mapGet
  rw [if_pos ⟨h.ok, hk⟩, hw.1]
  rfl
/-- A value put over another one. -/
theorem Chn.over {q : Nat} (h : Chn f a l) (hq : q ∈ l) (hv : isVal val = true) : Chn (upd f q { f q with b := val }) a l := by
  have hu : ∀ x, (upd f q { f q with b := val } x).u = (f x).u ∧ (upd f q { f q with b := val } x).c = (f x).c ∧ (upd f q { f q with b := val } x).a = (f x).a := fun x => by
    by_cases e : x = q
    · subst e; rw [upd_at]; exact ⟨rfl, rfl, rfl⟩
    · rw [upd_ne _ _ e]; exact ⟨rfl, rfl, rfl⟩
  refine ⟨h.1.congr fun x _ => ⟨(hu x).1, (hu x).2.1⟩, asc_congr h.2.1 fun x _ => (hu x).2.2, fun i hi => by rw [(hu i).1]; exact h.2.2.1 i hi, fun i hi => ?_⟩
  by_cases e : i = q
  · subst e
    rw [upd_at]
    obtain ⟨_, k1, k2, k3⟩ := h.key hq
    simp [nodeOk, k1, k2, hv]
  · rw [upd_ne _ _ e]; exact h.2.2.2 i hi
/-- A new node between two parts. -/
theorem Chn.ins {i : Nat} (h : Chn f a (l1 ++ l2)) (h1 : ∀ q ∈ l1, (f q).a < key) (h2 : ∀ q ∈ l2, key < (f q).a) (hi : i < 16) (hf : (f i).u = false) (hk : isVal key = true) (hv : isVal val = true) :
    Chn (linkF (upd f i ⟨true, key, val, headP l2⟩) (lastP (-1) l1) i) (linkA a (lastP (-1) l1) i) (l1 ++ i :: l2) := by
  obtain ⟨p1, p2, p3, p4⟩ := h
  have hnd := asc_nodup p2
  have hni : i ∉ l1 ++ l2 := fun hm => by rw [(p1.mem i hm).2] at hf; cases hf
  have hi1 : i ∉ l1 := fun hm => hni (by simp [hm])
  have hi2 : i ∉ l2 := fun hm => hni (by simp [hm])
  have hn1 : l1.Nodup := (List.nodup_append.1 hnd).1
  have hd : ∀ q ∈ l2, q ∉ l1 := fun q hq hq1 => (List.nodup_append.1 hnd).2.2 q hq1 q hq rfl
  have hp2 : Pth f (headP l2) l2 := by
    have : ∀ (l1 : List Nat) (p : Int), Pth f p (l1 ++ l2) → Pth f (headP l2) l2 := by
      intro l1
      induction l1 with
      | nil => intro p hp; have := hp.head; rw [List.nil_append] at this hp; rw [← this]; exact hp
      | cons x l1 ih => intro p hp; exact ih _ hp.inv.2.2.2
    exact this l1 a p1
  have gi : linkF (upd f i ⟨true, key, val, headP l2⟩) (lastP (-1) l1) i i = ⟨true, key, val, headP l2⟩ := by rw [linkF_else hi1, upd_at]
  have g2 : ∀ q ∈ l2, linkF (upd f i ⟨true, key, val, headP l2⟩) (lastP (-1) l1) i q = f q := fun q hq => by
    rw [linkF_else (hd q hq), upd_ne]
    rintro rfl; exact hi2 hq
  have ga : ∀ q, q ≠ i → (linkF (upd f i ⟨true, key, val, headP l2⟩) (lastP (-1) l1) i q).a = (f q).a ∧ (linkF (upd f i ⟨true, key, val, headP l2⟩) (lastP (-1) l1) i q).b = (f q).b ∧ (linkF (upd f i ⟨true, key, val, headP l2⟩) (lastP (-1) l1) i q).u = (f q).u := fun q hq => by
    have := linkF_abu (f := upd f i ⟨true, key, val, headP l2⟩) (ah := lastP (-1) l1) (x := i) (q := q)
    rwa [upd_ne _ _ hq] at this
  have ge : ∀ q, q ∈ l1 → linkF (upd f i ⟨true, key, val, headP l2⟩) (lastP (-1) l1) i q = linkF f (lastP (-1) l1) i q := fun q hq => by
    have hqi : q ≠ i := by rintro rfl; exact hi1 hq
    unfold linkF
    split
    · rw [upd_ne _ _ hqi]
    · rename_i hl
      have : (lastP (-1) l1).toNat ≠ i := by
        rcases snoc_or l1 with rfl | ⟨l', y, rfl⟩
        · exact absurd rfl hl
        · rw [lastP_snoc, Int.toNat_natCast]; rintro rfl; exact hi1 (by simp)
      rw [upd_ne f _ this]
      by_cases e : q = (lastP (-1) l1).toNat
      · subst e; rw [upd_at, upd_at]
      · rw [upd_ne _ _ e, upd_ne _ _ e, upd_ne _ _ hqi]
  have gz : ∀ q, q ≠ i → q ∉ l1 → linkF (upd f i ⟨true, key, val, headP l2⟩) (lastP (-1) l1) i q = f q := fun q hq hq1 => by rw [linkF_else hq1, upd_ne _ _ hq]
  generalize linkF (upd f i ⟨true, key, val, headP l2⟩) (lastP (-1) l1) i = g at gi g2 ga ge gz ⊢
  have hg1 : ∀ q ∈ l1, g q = linkF f (lastP (-1) l1) i q := fun q hq => ge q hq
  have hpath : Pth g (linkA a (lastP (-1) l1) i) (l1 ++ i :: l2) := by
    refine Pth.link p1 hg1 hn1 (.cons hi (by rw [gi]) ?_)
    rw [gi]
    exact hp2.congr fun q hq => by rw [g2 q hq]; exact ⟨rfl, rfl⟩
  have hlt : ∀ x ∈ l1, ∀ y ∈ l2, (f x).a < (f y).a := fun x hx y hy => (List.pairwise_append.1 p2).2.2 x hx y hy
  refine ⟨hpath, ?_, ?_, ?_⟩
  · refine List.pairwise_append.2 ⟨?_, List.pairwise_cons.2 ⟨fun y hy => ?_, ?_⟩, fun x hx y hy => ?_⟩
    · exact asc_congr (List.pairwise_append.1 p2).1 fun q hq => (ga q (by rintro rfl; exact hi1 hq)).1
    · rw [gi, g2 y hy]; exact h2 y hy
    · exact asc_congr (List.pairwise_append.1 p2).2.1 fun q hq => by rw [g2 q hq]
    · rw [(ga x (by rintro rfl; exact hi1 hx)).1]
      rcases List.mem_cons.1 hy with rfl | hy
      · rw [gi]; exact h1 x hx
      · rw [g2 y hy]; exact hlt x hx y hy
  · intro j hj
    by_cases e : j = i
    · subst e; rw [gi]; simp
    · rw [(ga j e).2.2, p3 j hj]
      simp [e]
  · intro j hj
    by_cases e : j = i
    · subst e; rw [gi]; simp [nodeOk, hk, hv]
    · cases hu : (f j).u with
      | true => exact nodeOk_abu (p4 j hj) hu (ga j e)
      | false =>
        have hj1 : j ∉ l1 := fun hm => by rw [(p1.mem j (by simp [hm])).2] at hu; cases hu
        rw [gz j e hj1]
        exact p4 j hj
/-- A node taken out. -/
theorem Chn.out {q : Nat} (h : Chn f a (l1 ++ q :: l2)) : Chn (upd (linkF f (lastP (-1) l1) (f q).c) q nd0) (linkA a (lastP (-1) l1) (f q).c) (l1 ++ l2) := by
  obtain ⟨p1, p2, p3, p4⟩ := h
  have hnd := asc_nodup p2
  obtain ⟨n1, n2, n3⟩ := List.nodup_append.1 hnd
  have hq1 : q ∉ l1 := fun hm => n3 q hm q (by simp) rfl
  have hq2 : q ∉ l2 := (List.nodup_cons.1 n2).1
  have hd : ∀ y ∈ l2, y ∉ l1 := fun y hy hy1 => n3 y hy1 y (by simp [hy]) rfl
  have hp2 : Pth f (f q).c l2 := by
    have : ∀ (l1 : List Nat) (p : Int), Pth f p (l1 ++ q :: l2) → Pth f (f q).c l2 := by
      intro l1
      induction l1 with
      | nil => intro p hp; exact hp.inv.2.2.2
      | cons x l1 ih => intro p hp; exact ih _ hp.inv.2.2.2
    exact this l1 a p1
  have g2 : ∀ y, y ≠ q → y ∉ l1 → upd (linkF f (lastP (-1) l1) (f q).c) q nd0 y = f y := fun y hy hy1 => by rw [upd_ne _ _ hy, linkF_else hy1]
  have g1 : ∀ y ∈ l1, upd (linkF f (lastP (-1) l1) (f q).c) q nd0 y = linkF f (lastP (-1) l1) (f q).c y := fun y hy => by rw [upd_ne]; rintro rfl; exact hq1 hy
  have ga : ∀ y, y ≠ q → (upd (linkF f (lastP (-1) l1) (f q).c) q nd0 y).a = (f y).a ∧ (upd (linkF f (lastP (-1) l1) (f q).c) q nd0 y).b = (f y).b ∧ (upd (linkF f (lastP (-1) l1) (f q).c) q nd0 y).u = (f y).u := fun y hy => by
    rw [upd_ne _ _ hy]; exact linkF_abu
  have gq : upd (linkF f (lastP (-1) l1) (f q).c) q nd0 q = nd0 := upd_at ..
  have hpath : Pth (upd (linkF f (lastP (-1) l1) (f q).c) q nd0) (linkA a (lastP (-1) l1) (f q).c) (l1 ++ l2) :=
    Pth.link p1 g1 n1 (hp2.congr fun y hy => by rw [g2 y (by rintro rfl; exact hq2 hy) (hd y hy)]; exact ⟨rfl, rfl⟩)
  generalize upd (linkF f (lastP (-1) l1) (f q).c) q nd0 = g at g1 g2 ga gq hpath ⊢
  have hall : ∀ y ∈ l1 ++ l2, y ≠ q := fun y hy => by
    rintro rfl
    rcases List.mem_append.1 hy with h | h
    · exact hq1 h
    · exact hq2 h
  refine ⟨hpath, asc_congr (f := f) ?_ fun y hy => (ga y (hall y hy)).1, fun j hj => ?_, fun j hj => ?_⟩
  · refine List.Pairwise.sublist ?_ p2
    exact List.Sublist.append (List.Sublist.refl _) (List.sublist_cons_self _ _)
  · by_cases e : j = q
    · subst e; rw [gq]
      cases hc : (l1 ++ l2).contains j with
      | false => rfl
      | true => exact absurd rfl (hall j (by simpa using hc))
    · rw [(ga j e).2.2, p3 j hj]
      simp [e]
  · by_cases e : j = q
    · subst e; rw [gq]; rfl
    · cases hu : (f j).u with
      | true => exact nodeOk_abu (p4 j hj) hu (ga j e)
      | false =>
        have hj1 : j ∉ l1 := fun hm => by rw [(p1.mem j (by simp [hm])).2] at hu; cases hu
        rw [g2 j e hj1]
        exact p4 j hj
end

/-! What the functions do. -/
theorem frI_none {f : Nat → Nd} (h : frI f 16 0 ≠ 16) : frI f 16 0 < 16 ∧ (f (frI f 16 0)).u = false := by
  have hb := frI_bound f 16 0
  refine ⟨by omega, ?_⟩
  have : ∀ (n i : Nat), frI f n i ≠ i + n → (f (frI f n i)).u = false := by
    intro n
    induction n with
    | zero => intro i h; exact absurd rfl h
    | succ n ih =>
      intro i h
      unfold frI at h ⊢
      by_cases hu : (f i).u = true
      · rw [if_pos hu] at h ⊢
        exact ih (i + 1) (by omega)
      · rw [if_neg hu]; simpa using hu
  exact this 16 0 (by omega)
theorem mapPut_ok {f : Nat → Nd} {a key val : Int} (h : chainOk f a = true) : chainOk (mapPut f a key val).1 (mapPut f a key val).2.1 = true ∧ (0 ≤ (mapPut f a key val).2.2.1 ∧ (mapPut f a key val).2.2.1 ≤ 10) ∧
    ((mapPut f a key val).2.2.2 ≠ 0 → (mapPut f a key val).1 = f ∧ (mapPut f a key val).2.1 = a) ∧
    ((mapPut f a key val).2.2.2 = 0 → isVal key = true ∧ isVal val = true ∧ (((mapGet (mapPut f a key val).1 (mapPut f a key val).2.1 key).2.2 = 0 ∧ (mapGet (mapPut f a key val).1 (mapPut f a key val).2.1 key).1 = val) ∨
      ((mapGet (mapPut f a key val).1 (mapPut f a key val).2.1 key).2.2 = 2 ∧ (mapPut f a key val).2.2.1 = 10))) := by
  obtain ⟨l, hl⟩ := chain_spec h
  by_cases hkv : isVal key = true ∧ isVal val = true
  · obtain ⟨hk, hv⟩ := hkv
    obtain ⟨l1, l2, rfl, h1, h2, hw⟩ := hl.part key
    by_cases hn : l1.length + exP l2 ≤ 10
    · rw [if_pos hn] at hw
      unfold mapPut
      rw [if_pos ⟨h, hk, hv⟩, hw]
      simp only [if_true]
      by_cases hb : hasB f (headP l2) key = true
      · obtain ⟨q, r, rfl, hq⟩ := hasB_iff.1 hb
        simp only [if_pos hb]
        have ho := hl.over (q := q) (by simp) hv
        simp only [headP, Int.toNat_natCast]
        refine ⟨ho.ok, ⟨by omega, by omega⟩, fun h => absurd rfl h, fun _ => ⟨hk, hv, .inl ?_⟩⟩
        have hu : ∀ x, (upd f q { f q with b := val } x).a = (f x).a := fun x => by
          by_cases e : x = q
          · subst e; rw [upd_at]
          · rw [upd_ne _ _ e]
        have hg := ho.get (key := key) (fun x hx => by rw [hu]; exact h1 x hx) (fun x hx => by rw [hu]; exact h2 x hx) hk hn
        rw [hg, if_pos (hasB_iff.2 ⟨q, r, rfl, by rw [hu]; exact hq⟩)]
        simp only [headP, Int.toNat_natCast, upd_at, and_self]
      · simp only [if_neg hb]
        by_cases hfull : frI f 16 0 = 16
        · simp only [if_pos hfull]
          exact ⟨h, ⟨by omega, by omega⟩, by simp, by simp⟩
        · simp only [if_neg hfull]
          obtain ⟨hi, hf⟩ := frI_none hfull
          have h2' : ∀ q ∈ l2, key < (f q).a := by
            cases l2 with
            | nil => intro q hq; cases hq
            | cons y r =>
              have hy : (f y).a ≠ key := fun e => hb (hasB_iff.2 ⟨y, r, rfl, e⟩)
              have hy2 := h2 y (by simp)
              intro q hq
              rcases List.mem_cons.1 hq with rfl | hq
              · omega
              · have := (List.pairwise_cons.1 (List.pairwise_append.1 hl.2.1).2.1).1 q hq
                omega
          have ho := hl.ins h1 h2' hi hf hk hv
          refine ⟨ho.ok, ⟨by omega, by omega⟩, fun h => absurd rfl h, fun _ => ⟨hk, hv, ?_⟩⟩
          have hi1 : frI f 16 0 ∉ l1 := fun hm => by rw [(hl.1.mem _ (by simp [hm])).2] at hf; cases hf
          have hi2 : frI f 16 0 ∉ l2 := fun hm => by rw [(hl.1.mem _ (by simp [hm])).2] at hf; cases hf
          have ga : ∀ q, q ≠ frI f 16 0 → (linkF (upd f (frI f 16 0) ⟨true, key, val, headP l2⟩) (lastP (-1) l1) (frI f 16 0) q).a = (f q).a := fun q hq => by
            rw [linkF_abu.1, upd_ne _ _ hq]
          have gi : linkF (upd f (frI f 16 0) ⟨true, key, val, headP l2⟩) (lastP (-1) l1) (frI f 16 0) (frI f 16 0) = ⟨true, key, val, headP l2⟩ := by rw [linkF_else hi1, upd_at]
          generalize linkF (upd f (frI f 16 0) ⟨true, key, val, headP l2⟩) (lastP (-1) l1) (frI f 16 0) = g at ho ga gi ⊢
          have k1 : ∀ q ∈ l1, (g q).a < key := fun q hq => by rw [ga q (by rintro rfl; exact hi1 hq)]; exact h1 q hq
          have k2 : ∀ q ∈ frI f 16 0 :: l2, key ≤ (g q).a := fun q hq => by
            rcases List.mem_cons.1 hq with rfl | hq
            · rw [gi]; exact Int.le_refl _
            · rw [ga q (by rintro rfl; exact hi2 hq)]; exact h2 q hq
          by_cases hm : l1.length + 1 ≤ 10
          · have hg := ho.get (key := key) k1 k2 hk hm
            rw [hg, if_pos (hasB_iff.2 ⟨_, l2, rfl, by rw [gi]⟩)]
            refine .inl ?_
            simp only [headP, Int.toNat_natCast, gi, and_self]
          · refine .inr ⟨ho.getNo k1 hk hm, ?_⟩
            show ((l1.length + exP l2 : Nat) : Int) = 10
            omega
    · rw [if_neg hn] at hw
      unfold mapPut
      rw [if_pos ⟨h, hk, hv⟩, hw.1, hw.2]
      simp only [Bool.false_eq_true, if_false]
      exact ⟨h, ⟨by omega, by omega⟩, by simp, by simp⟩
  · unfold mapPut
    rw [if_neg (fun h' => hkv ⟨h'.2.1, h'.2.2⟩)]
    exact ⟨h, ⟨Int.le_refl _, by show (0 : Int) ≤ 10; omega⟩, fun _ => ⟨rfl, rfl⟩, fun h => by simp at h⟩
theorem mapDrop_ok {f : Nat → Nd} {a key : Int} (h : chainOk f a = true) : chainOk (mapDrop f a key).1 (mapDrop f a key).2.1 = true ∧
    ((mapDrop f a key).2.2.2 = 0 → (mapGet (mapDrop f a key).1 (mapDrop f a key).2.1 key).2.2 = 4) := by
  obtain ⟨l, hl⟩ := chain_spec h
  by_cases hk : isVal key = true
  · obtain ⟨l1, l2, rfl, h1, h2, hw⟩ := hl.part key
    by_cases hn : l1.length + exP l2 ≤ 10
    · rw [if_pos hn] at hw
      unfold mapDrop
      rw [if_pos ⟨h, hk⟩, hw]
      simp only [if_true]
      by_cases hb : hasB f (headP l2) key = true
      · obtain ⟨q, r, rfl, hq⟩ := hasB_iff.1 hb
        simp only [if_pos hb]
        simp only [headP, Int.toNat_natCast]
        have ho := hl.out
        refine ⟨ho.ok, fun _ => ?_⟩
        have hnd := asc_nodup hl.2.1
        obtain ⟨n1, n2, n3⟩ := List.nodup_append.1 hnd
        have ga : ∀ y, y ≠ q → (upd (linkF f (lastP (-1) l1) (f q).c) q nd0 y).a = (f y).a := fun y hy => by rw [upd_ne _ _ hy]; exact linkF_abu.1
        have hr : ∀ y ∈ r, key < (f y).a := fun y hy => by
          have := (List.pairwise_cons.1 (List.pairwise_append.1 hl.2.1).2.1).1 y hy
          omega
        have k1 : ∀ y ∈ l1, (upd (linkF f (lastP (-1) l1) (f q).c) q nd0 y).a < key := fun y hy => by rw [ga y (by rintro rfl; exact n3 y hy y (by simp) rfl)]; exact h1 y hy
        have k2 : ∀ y ∈ r, key < (upd (linkF f (lastP (-1) l1) (f q).c) q nd0 y).a := fun y hy => by rw [ga y (by rintro rfl; exact (List.nodup_cons.1 n2).1 hy)]; exact hr y hy
        rw [ho.get k1 (fun y hy => by have := k2 y hy; omega) hk (by
          simp only [exP] at hn
          cases r <;> simp [exP] <;> omega), if_neg]
        intro hh
        obtain ⟨y, r', rfl, e⟩ := hasB_iff.1 hh
        have := k2 y (by simp)
        omega
      · simp only [if_neg hb]
        exact ⟨h, fun h => by simp at h⟩
    · rw [if_neg hn] at hw
      unfold mapDrop
      rw [if_pos ⟨h, hk⟩, hw.1]
      exact ⟨h, fun h => by simp at h⟩
  · unfold mapDrop
    rw [if_neg (fun h' => hk h'.2)]
    exact ⟨h, fun h => by simp at h⟩
theorem prs_pth {f : Nat → Nd} : ∀ (n : Nat) (p : Int) (l : List Nat), Pth f p l → l.length ≤ n → prs f n p = l.map f
  | n, p, [], h, _ => by
    have := h.head
    simp only [headP] at this
    subst this
    rw [prs_end]; rfl
  | 0, p, q :: l, h, hn => by simp at hn
  | n + 1, p, q :: l, h, hn => by
    obtain ⟨rfl, h1, h2, h3⟩ := h.inv
    simp only [List.length_cons] at hn
    unfold prs
    rw [if_neg (by omega), Int.toNat_natCast, prs_pth n _ l h3 (by omega)]
    rfl
/-- Ascending lists of keys. -/
def Up (ks : List Int) : Prop := ks.Pairwise (· < ·)
theorem keys_up {f : Nat → Nd} {a : Int} (h : chainOk f a = true) : Up (keysL (pairsL f a)) := by
  obtain ⟨l, hl⟩ := chain_spec h
  unfold pairsL
  rw [if_pos h, prs_pth 17 a l hl.1 (by have := hl.len.2; omega)]
  unfold keysL Up
  rw [List.map_map]
  exact List.pairwise_map.2 hl.2.1
/-- What a range tells of ascending keys. -/
theorem rgK_filter {lo hi : Int} : ∀ (n : Nat) {ks : List Int}, Up ks → (rgK lo hi n ks).2 = true → (rgK lo hi n ks).1 = ks.filter fun x => decide (lo ≤ x) && decide (x ≤ hi)
  | n, [], _, _ => by rw [rgK_nil]; rfl
  | 0, x :: ks, _, h => by simp [rgK] at h
  | n + 1, x :: ks, hu, h => by
    obtain ⟨u1, u2⟩ := List.pairwise_cons.1 hu
    by_cases hx : x > hi
    · rw [rgK_far hx]
      symm
      show List.filter _ _ = []
      rw [List.filter_eq_nil_iff]
      intro y hy
      have : x ≤ y := by
        rcases List.mem_cons.1 hy with rfl | hy
        · omega
        · have := u1 y hy; omega
      simp; omega
    · by_cases hl : x ≥ lo
      · rw [rgK_in hx hl] at h ⊢
        rw [List.filter_cons, if_pos (by simp; omega), rgK_filter n u2 h]
      · rw [rgK_out hx hl] at h ⊢
        rw [List.filter_cons, if_neg (by simp; omega), rgK_filter n u2 h]
end Go.Proofs.Ytdnfcomgdgdifaa
