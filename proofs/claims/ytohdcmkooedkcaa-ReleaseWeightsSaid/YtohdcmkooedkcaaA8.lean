/- Code and calls: what a function's text asks, computed by unfolding; that it is enough; loops by a relation. -/
import Derived.Test.YtohdcmkooedkcaaA7
namespace Go.Proofs.Ytohdcmkooedkcaa.A
open Go Go.RowKit
set_option linter.unusedVariables false
set_option linter.unusedSimpArgs false

abbrev Post := Exit → List Value → List Deferred → Hp → Prop

/-- From each world that is told as H the code comes to its end, and to a world that is told. -/
def liftQ (w0 : World) (F : List Atom) (Q : Post) : Exit → Act → World → Prop := fun e a w => ∃ fr H, a.tmps = fr.toArray ∧ RepF w0 F H w ∧ Q e fr a.defers H
@[irreducible] def AWp (P : Program) (c : Code) (Q : Post) (fr : List Value) (ds : List Deferred) (H : Hp) : Prop :=
  ∀ w0 F w, RepF w0 F H w → c.wp P (liftQ w0 F Q) ⟨fr.toArray, ds⟩ w

def dstF (fr : List Value) (d : Option Tmp) (v : Value) (K : List Value → Prop) : Prop :=
  match d with
  | none => K fr
  | some d => putF fr d v K
def setD (fr : List Value) (d : Option Tmp) (v : Value) : List Value :=
  match d with
  | none => fr
  | some d => fr.set d v
theorem dstF_iff {fr : List Value} {d : Option Tmp} {v : Value} {K : List Value → Prop} : dstF fr d v K ↔ K (setD fr d v) := by
  cases d <;> simp [dstF, setD, putF_iff]
theorem put_setD (fr : List Value) (ds : List Deferred) (d : Option Tmp) (v : Value) : (Act.mk fr.toArray ds).put d v = ⟨(setD fr d v).toArray, ds⟩ := by
  cases d <;> simp [Act.put, setD]
def wantF (want : Bool) (A B : Prop) : Prop :=
  match want with
  | true => A
  | false => B
def guardV (v : Value) (A B C : Prop) : Prop :=
  match v with
  | .bool b => ifC b A B
  | _ => C
def guardF (all : List Oper) (fr : List Value) (j : Nat) (want : Bool) (A B : List Value → Prop) : Prop :=
  nthG all j fun o => match o.dst with
    | some d => nthF fr d fun v => guardV v (putF fr d (.bool true) fun fr' => wantF want (A fr') (B fr')) (putF fr d (.bool false) fun fr' => wantF want (B fr') (A fr')) (B fr)
    | none => False
def deferF (fr : List Value) (c : Call) (K : Deferred → Prop) : Prop :=
  match c with
  | ⟨.value f, args, _⟩ => evF fr f fun v => evsF fr args.toList fun vs => (match v with
    | .func fn first cap => K { target := .fn fn cap, args := (first.toList ++ vs).toArray }
    | _ => False)
  | _ => False
def stepF (P : Program) (T : Tab) (o : Oper) (fr : List Value) (ds : List Deferred) (H : Hp) (next : List Value → List Deferred → Hp → Prop) (Q : Post) : Prop :=
  match o.op with
  | .defer c => deferF fr c fun d => dstF fr o.dst undef fun fr' => next fr' (d :: ds) H
  | op => opF P T op fr H (fun v H' => dstF fr o.dst v fun fr' => next fr' ds H') (fun ch H' => Q (.panic ch) fr ds H')
def opsF (P : Program) (T : Tab) (all : List Oper) (Q : Post) : List Oper → List Value → List Deferred → Hp → Prop
  | [], fr, ds, H => Q .normal fr ds H
  | o :: rest, fr, ds, H =>
    match o.guard with
    | none => stepF P T o fr ds H (fun fr' ds' H' => opsF P T all Q rest fr' ds' H') Q
    | some (j, want) => guardF all fr j want (fun fr => stepF P T o fr ds H (fun fr' ds' H' => opsF P T all Q rest fr' ds' H') Q)
        (fun fr => dstF fr o.dst undef fun fr' => opsF P T all Q rest fr' ds H)
def condF (v : Value) (A B : Prop) : Prop :=
  match v with
  | .bool b => ifC b A B
  | _ => False
def seqQ (K : List Value → List Deferred → Hp → Prop) (Q : Post) : Post
  | .normal, fr, ds, H => K fr ds H
  | e, fr, ds, H => Q e fr ds H
def blockQ (id : Nat) (Q : Post) : Post
  | .exit id', fr, ds, H => ifC (Nat.beq id' id) (Q .normal fr ds H) (Q (.exit id') fr ds H)
  | e, fr, ds, H => Q e fr ds H
def scopeQ (Q : Post) : Post
  | .goto _, _, _, _ => False
  | e, fr, ds, H => Q e fr ds H
def codeF (P : Program) (T : Tab) : Code → Post → List Value → List Deferred → Hp → Prop
  | .skip, Q, fr, ds, H => Q .normal fr ds H
  | .label _, Q, fr, ds, H => Q .normal fr ds H
  | .region id ops draw, Q, fr, ds, H => ifC draw (AWp P (.region id ops draw) Q fr ds H) (opsF P T ops.toList Q ops.toList fr ds H)
  | .seq x y, Q, fr, ds, H => codeF P T x (seqQ (fun fr ds H => codeF P T y Q fr ds H) Q) fr ds H
  | .cond c x y, Q, fr, ds, H => evF fr c fun v => condF v (codeF P T x Q fr ds H) (codeF P T y Q fr ds H)
  | .block id c, Q, fr, ds, H => codeF P T c (blockQ id Q) fr ds H
  | .scope c, Q, fr, ds, H => codeF P T c (scopeQ Q) fr ds H
  | .loop c, Q, fr, ds, H => AWp P (.loop c) Q fr ds H
  | .exit id, Q, fr, ds, H => Q (.exit id) fr ds H
  | .ret, Q, fr, ds, H => Q .ret fr ds H
  | .rangeFunc f ps a b, Q, fr, ds, H => AWp P (.rangeFunc f ps a b) Q fr ds H
  | .goto _, _, _, _, _ => False
  | .refuse _, _, _, _, _ => False

section
variable {P : Program} {w0 w : World} {F : List Atom} {H : Hp} {T : Tab} {fr : List Value} {ds : List Deferred} {Q : Post}

theorem awp_ok {c : Code} (h : AWp P c Q fr ds H) (hr : RepF w0 F H w) : c.wp P (liftQ w0 F Q) ⟨fr.toArray, ds⟩ w := by
  unfold AWp at h; exact h w0 F w hr
theorem awp_mk {c : Code} (h : ∀ w0 F w, RepF w0 F H w → c.wp P (liftQ w0 F Q) ⟨fr.toArray, ds⟩ w) : AWp P c Q fr ds H := by
  unfold AWp; exact h
theorem AWp.weak {c : Code} {H1 : Hp} (hw : Weak H H1) (h : AWp P c Q fr ds H1) : AWp P c Q fr ds H := awp_mk fun w0 F w hr => awp_ok h (hw w0 F w hr)
theorem AWp.mono {c : Code} {Q' : Post} (h : AWp P c Q fr ds H) (hq : ∀ e fr ds H, Q e fr ds H → Q' e fr ds H) : AWp P c Q' fr ds H :=
  awp_mk fun w0 F w hr => wp_mono (awp_ok h hr) fun e a w ⟨fr, H, h1, h2, h3⟩ => ⟨fr, H, h1, h2, hq _ _ _ _ h3⟩

theorem act_eta {a : Act} {fr : List Value} (h : a.tmps = fr.toArray) : a = ⟨fr.toArray, a.defers⟩ := by cases a; simp_all

theorem upon_of_opRes {o : Oper} {a : Act} {next : Act → World → Prop} {Q' : Exit → Act → World → Prop} {K : Value → Hp → Prop} {E : List PanicEntry → Hp → Prop} {r : Result Next}
    (h : OpRes P w0 F K E r) (hn : ∀ v H' w', RepF w0 F H' w' → K v H' → next (a.put o.dst v) w') (he : ∀ ch H' w', RepF w0 F H' w' → E ch H' → Q' (.panic ch) a w') : o.upon P a next Q' r := by
  unfold OpRes at h
  split at h
  · obtain ⟨H', hr, hk⟩ := h; exact hn _ _ _ hr hk
  · obtain ⟨H', hr, hk⟩ := h; exact hn _ _ _ hr hk
  · refine Calls.mono h fun e w'' ⟨H', hr, hk⟩ => ?_
    cases e with
    | returned v => exact hn _ _ _ hr hk
    | panicked ch => exact he _ _ _ hr hk
    | outgrown => exact hk.elim
  · obtain ⟨H', hr, hk⟩ := h; exact he _ _ _ hr hk
  · exact h.elim

/-- 'defer f(x)' puts the call on the pile. -/
theorem deferF_ok {c : Call} {K : Deferred → Prop} {ty : TypeId} (h : deferF fr c K) : ∃ d, (resolve (evL fr) c ty).run P w = .ok d w ∧ K d := by
  unfold deferF at h
  split at h
  · rename_i f args ts
    rw [evF_iff, evsF_iff] at h
    split at h
    · rename_i fn first cap hv
      refine ⟨_, ?_, h⟩
      simp only [resolve, hv, Deferred.ofValue, Sem.run_pure]
      congr 2
      apply Array.toList_inj.1; simp
    · exact h.elim
  · exact h.elim

theorem stepF_ok (hT : Tab.okFrom P 0 T) {o : Oper} {next : List Value → List Deferred → Hp → Prop} (h : stepF P T o fr ds H next Q) (hr : RepF w0 F H w) :
    o.wp P ⟨fr.toArray, ds⟩ w (fun a w => ∃ fr H, a.tmps = fr.toArray ∧ RepF w0 F H w ∧ next fr a.defers H) (liftQ w0 F Q) := by
  unfold stepF at h
  split at h
  · rename_i c hc
    obtain ⟨d, hd, hk⟩ := deferF_ok (P := P) (w := w) (ty := o.type) h
    rw [dstF_iff] at hk
    have hrun : (execOp (evL fr) o).run P w = .ok (.defer d) w := by simp [execOp, hc, hd]
    unfold Oper.wp
    rw [evL_eq, hrun, Oper.upon_defer]
    have := put_setD fr (d :: ds) o.dst undef
    refine ⟨setD fr o.dst undef, H, ?_, hr, ?_⟩
    · exact congrArg Act.tmps this
    · have h2 : (({ tmps := fr.toArray, defers := d :: ds } : Act).put o.dst undef).defers = d :: ds := congrArg Act.defers this
      exact h2.symm ▸ hk
  · have hop := opF_ok hT o fr hr h
    unfold Oper.wp
    rw [evL_eq]
    refine upon_of_opRes hop (fun v H' w' hr' hk => ?_) (fun ch H' w' hr' hk => ⟨fr, H', rfl, hr', hk⟩)
    rw [dstF_iff] at hk
    rw [put_setD]
    exact ⟨_, H', rfl, hr', hk⟩

theorem guardF_ok {ops : Array Oper} {j : Nat} {want : Bool} {A B : List Value → Prop} (h : guardF ops.toList fr j want A B) :
    (yielded ops fr.toArray j = some want ∧ A fr) ∨ (yielded ops fr.toArray j ≠ some want ∧ B fr) := by
  unfold guardF at h
  obtain ⟨o, ho, h⟩ := nthG_get h
  split at h
  · rename_i d hd
    rw [nthF_iff] at h
    unfold guardV at h
    split at h
    · rename_i b hb
      have hlt : d < fr.length := by
        rcases Nat.lt_or_ge d fr.length with h1 | h1
        · exact h1
        · rw [List.getD_eq_getElem?_getD, List.getElem?_eq_none h1] at hb
          simp [undef] at hb
      have hget : fr[d]? = some (.bool b) := by
        rw [List.getD_eq_getElem?_getD, List.getElem?_eq_getElem hlt] at hb
        rw [List.getElem?_eq_getElem hlt]; simpa using hb
      have hy : yielded ops fr.toArray j = some b := by
        have : ops[j]? = some o := by simpa using ho
        simp [yielded, this, hd, hget]
      have hset : fr.set d (.bool b) = fr := by
        apply List.ext_getElem?
        intro i
        rw [List.getElem?_set]
        by_cases hi : d = i
        · subst hi; simp [hlt, hget]; exact (List.getElem?_eq_some_iff.1 hget).2.symm
        · simp [hi]
      rw [hy]
      rcases ifC_out h with ⟨rfl, h2⟩ | ⟨rfl, h2⟩
      · rw [putF_iff, hset] at h2
        cases want
        · exact .inr ⟨by simp, h2⟩
        · exact .inl ⟨rfl, h2⟩
      · rw [putF_iff, hset] at h2
        cases want
        · exact .inl ⟨rfl, h2⟩
        · exact .inr ⟨by simp, h2⟩
    · rename_i v hb
      have hy : yielded ops fr.toArray j = none := by
        have ho' : ops[j]? = some o := by simpa using ho
        simp only [yielded, ho', hd, Option.bind_some, List.getElem?_toArray]
        cases hx : fr[d]? with
        | none => rfl
        | some x =>
          simp only [List.getD_eq_getElem?_getD, hx, Option.getD_some] at hb
          cases x <;> first | rfl | exact absurd rfl (hb _)
      exact .inr ⟨by simp [hy], h⟩
  · exact h.elim

theorem wpList_of (hT : Tab.okFrom P 0 T) {ops : Array Oper} : ∀ (l : List Oper) (fr : List Value) (ds : List Deferred) (H : Hp) (w : World), opsF P T ops.toList Q l fr ds H → RepF w0 F H w → wpList P ops (liftQ w0 F Q) l ⟨fr.toArray, ds⟩ w
  | [], fr, ds, H, w, h, hr => ⟨fr, H, rfl, hr, h⟩
  | o :: rest, fr, ds, H, w, h, hr => by
    have next : ∀ a w, (∃ fr H, a.tmps = fr.toArray ∧ RepF w0 F H w ∧ opsF P T ops.toList Q rest fr a.defers H) → wpList P ops (liftQ w0 F Q) rest a w := by
      intro a w ⟨fr', H', h1, h2, h3⟩
      have := wpList_of hT rest fr' a.defers H' w h3 h2
      rwa [← act_eta h1] at this
    unfold opsF at h
    unfold wpList
    split at h
    · rename_i hg
      have hw : Region.wanted o (yielded ops (Act.mk fr.toArray ds).tmps) = true := by simp [Region.wanted, hg]
      rw [if_pos hw]
      exact .inl (Oper.wp_mono next (stepF_ok hT h hr))
    · rename_i j want hg
      rcases guardF_ok h with ⟨hy, h⟩ | ⟨hy, h⟩
      · have hw : Region.wanted o (yielded ops (Act.mk fr.toArray ds).tmps) = true := by simp [Region.wanted, hg, hy]
        rw [if_pos hw]
        exact .inl (Oper.wp_mono next (stepF_ok hT h hr))
      · have hw : ¬ (Region.wanted o (yielded ops (Act.mk fr.toArray ds).tmps) = true) := by simp [Region.wanted, hg, hy]
        rw [if_neg hw, put_setD]
        rw [dstF_iff] at h
        exact wpList_of hT rest _ ds H w h hr

theorem codeF_ok (hT : Tab.okFrom P 0 T) : ∀ (c : Code) (Q : Post) (fr : List Value) (ds : List Deferred) (H : Hp), codeF P T c Q fr ds H → AWp P c Q fr ds H := by
  intro c
  induction c with
  | skip => intro Q fr ds H h; exact awp_mk fun w0 F w hr => wp_skip ⟨fr, H, rfl, hr, h⟩
  | label l => intro Q fr ds H h; exact awp_mk fun w0 F w hr => wp_label ⟨fr, H, rfl, hr, h⟩
  | region id ops draw =>
    intro Q fr ds H h
    simp only [codeF] at h
    rcases ifC_out h with ⟨_, h⟩ | ⟨rfl, h⟩
    · exact h
    · exact awp_mk fun w0 F w hr => wp_region_list (wpList_of hT ops.toList fr ds H w h hr)
  | seq x y ihx ihy =>
    intro Q fr ds H h
    refine awp_mk fun w0 F w hr => wp_seq (wp_mono (awp_ok (ihx _ _ _ _ h) hr) ?_)
    intro e a w' ⟨fr', H', h1, h2, h3⟩
    cases e with
    | normal =>
      have := awp_ok (ihy _ _ _ _ h3) h2
      rwa [← act_eta h1] at this
    | exit id => exact ⟨fr', H', h1, h2, h3⟩
    | goto l => exact ⟨fr', H', h1, h2, h3⟩
    | ret => exact ⟨fr', H', h1, h2, h3⟩
    | panic ch => exact ⟨fr', H', h1, h2, h3⟩
    | outgrown => exact ⟨fr', H', h1, h2, h3⟩
  | cond c x y ihx ihy =>
    intro Q fr ds H h
    simp only [codeF, evF_iff, condF] at h
    split at h
    · rename_i b hb
      refine awp_mk fun w0 F w hr => wp_cond (t := b) (by rw [evL_eq]; exact hb) ?_
      rcases ifC_out h with ⟨rfl, h⟩ | ⟨rfl, h⟩
      · exact awp_ok (ihx _ _ _ _ h) hr
      · exact awp_ok (ihy _ _ _ _ h) hr
    · exact h.elim
  | block id c ih =>
    intro Q fr ds H h
    refine awp_mk fun w0 F w hr => wp_block (wp_mono (awp_ok (ih _ _ _ _ h) hr) ?_)
    intro e a w' ⟨fr', H', h1, h2, h3⟩
    cases e with
    | exit id' =>
      simp only [blockQ] at h3
      rcases ifC_out h3 with ⟨hb, h3⟩ | ⟨hb, h3⟩
      · have hb := Nat.eq_of_beq_eq_true hb
        simp only [Exit.inBlock, hb, if_true]
        exact ⟨fr', H', h1, h2, h3⟩
      · have hb := Nat.ne_of_beq_eq_false hb
        simp only [Exit.inBlock, hb, if_false]
        exact ⟨fr', H', h1, h2, h3⟩
    | normal => exact ⟨fr', H', h1, h2, h3⟩
    | goto l => exact ⟨fr', H', h1, h2, h3⟩
    | ret => exact ⟨fr', H', h1, h2, h3⟩
    | panic ch => exact ⟨fr', H', h1, h2, h3⟩
    | outgrown => exact ⟨fr', H', h1, h2, h3⟩
  | loop c _ => intro Q fr ds H h; exact h
  | rangeFunc f ps a b _ _ => intro Q fr ds H h; exact h
  | exit id => intro Q fr ds H h; exact awp_mk fun w0 F w hr => wp_exit ⟨fr, H, rfl, hr, h⟩
  | scope c ih =>
    intro Q fr ds H h
    refine awp_mk fun w0 F w hr => wp_scope_straight (wp_mono (awp_ok (ih _ _ _ _ h) hr) ?_)
    intro e a w' ⟨fr', H', h1, h2, h3⟩
    cases e with
    | goto l => exact h3.elim
    | normal => exact ⟨fr', H', h1, h2, h3⟩
    | exit id => exact ⟨fr', H', h1, h2, h3⟩
    | ret => exact ⟨fr', H', h1, h2, h3⟩
    | panic ch => exact ⟨fr', H', h1, h2, h3⟩
    | outgrown => exact ⟨fr', H', h1, h2, h3⟩
  | goto l => intro Q fr ds H h; exact h.elim
  | ret => intro Q fr ds H h; exact awp_mk fun w0 F w hr => wp_ret ⟨fr, H, rfl, hr, h⟩
  | refuse why => intro Q fr ds H h; exact h.elim

/-! ### Functions -/
def resF (T : Tab) (fr : List Value) (H : Hp) : List ResultVar → (List Value → Prop) → Prop
  | [], K => K []
  | .tmp t :: r, K => nthF fr t fun v => resF T fr H r fun vs => K (v :: vs)
  | .cell a t :: r, K => nthF fr a fun p => loadF T t p H fun v => resF T fr H r fun vs => K (v :: vs)
def oneF (vs : List Value) (K : Value → Prop) : Prop :=
  match vs with
  | [v] => K v
  | vs => K (.tuple vs.toArray)
/-- What a function's text has to come to. A panic leaves it as it is. -/
def bodyQ (T : Tab) (fn : Func) (R : Ending → Hp → Prop) : Post
  | .normal, fr, ds, H | .ret, fr, ds, H => ds = [] ∧ resF T fr H fn.results.toList fun vs => oneF vs fun v => ∃ H', Weak H H' ∧ R (.returned v) H'
  | .panic ch, _, ds, H => ds = [] ∧ ∃ H', Weak H H' ∧ R (.panicked ch) H'
  | _, _, _, _ => False

theorem resF_ok (hT : Tab.okFrom P 0 T) (hr : RepF w0 F H w) : ∀ (rs : List ResultVar) (K : List Value → Prop), resF T fr H rs K →
    ∃ vs, (rs.mapM (m := Sem) fun
      | .tmp t => pure (fr.toArray.getD t undef)
      | .cell a t => do loadVar t (← asAddr (fr.toArray.getD a undef))).run P w = .ok vs w ∧ K vs
  | [], K, h => ⟨[], rfl, h⟩
  | .tmp t :: r, K, h => by
    simp only [resF, nthF_iff] at h
    obtain ⟨vs, hv, hk⟩ := resF_ok hT hr r _ h
    refine ⟨_, ?_, hk⟩
    simp only [List.mapM_cons, Sem.run_bind, Sem.run_pure, Result.andThen_ok]
    erw [hv]
    simp
  | .cell a t :: r, K, h => by
    simp only [resF, nthF_iff] at h
    obtain ⟨v, hl, h⟩ := loadF_ok hT hr h
    obtain ⟨vs, hv, hk⟩ := resF_ok hT hr r _ h
    refine ⟨_, ?_, hk⟩
    have hl2 : (do loadVar t (← asAddr (fr.toArray.getD a undef)) : Sem Value).run P w = .ok v w := by
      have : fr.toArray.getD a undef = fr.getD a undef := by simp
      rw [this]
      generalize fr.getD a undef = x at hl ⊢
      cases x with
      | pointer p => cases p with
        | some ad => simpa [Instr.loadAt, Instr.sureAddr, asAddr] using hl
        | none => simp [Instr.loadAt, Instr.sureAddr] at hl
      | _ => simp [Instr.loadAt, Instr.sureAddr] at hl
    simp only [List.mapM_cons, Sem.run_bind, Result.andThen_ok] at hl2 ⊢
    rw [hl2]
    simp only [Result.andThen_ok]
    erw [hv]
    simp

theorem results_ok (hT : Tab.okFrom P 0 T) {fn : Func} {K : Value → Prop} (hr : RepF w0 F H w) (h : resF T fr H fn.results.toList fun vs => oneF vs K) :
    ∃ v, (results fn fr.toArray).run P w = .ok v w ∧ K v := by
  obtain ⟨vs, hv, hk⟩ := resF_ok hT hr _ _ h
  unfold results
  simp only [Sem.run_bind, Array.mapM_eq_mapM_toList, Sem.run_map]
  erw [hv]
  simp only [Result.andThen_ok, Sem.run_pure]
  unfold oneF at hk
  split at hk
  · exact ⟨_, by simp, hk⟩
  · rename_i hne
    refine ⟨_, ?_, hk⟩
    have : ¬ vs.length = 1 := by
      intro h1
      obtain ⟨v, rfl⟩ := List.length_eq_one_iff.1 h1
      exact hne v rfl
    simp [this]

theorem acalls_code (hT : Tab.okFrom P 0 T) {f : FuncId} {fn : Func} {c : Code} {args : List Value} {R : Ending → Hp → Prop} (hf : P.funcs[f]? = some fn) (hb : fn.body = some c) (hn : (fn.name == "runtime.NumGoroutine") = false)
    (h : codeF P T c (bodyQ T fn R) (args ++ List.replicate (fn.ntmps - args.length) undef) [] H) : ACalls P f args H R := by
  refine acalls_mk hf hn (by rw [hb]; rfl) fun w0 F w hr => ?_
  refine calls_of_wp hf hb ?_
  have hw := awp_ok (codeF_ok hT c _ _ _ _ h) hr
  have e : (args ++ List.replicate (fn.ntmps - args.length) undef).toArray = args.toArray ++ Array.replicate (fn.ntmps - args.toArray.size) undef := by apply Array.toList_inj.1; simp
  rw [e] at hw
  refine wp_mono hw ?_
  have key : ∀ (a : Act) (w' : World) (fr' : List Value) (H' : Hp), a.tmps = fr'.toArray → RepF w0 F H' w' → (a.defers = [] ∧ resF T fr' H' fn.results.toList fun vs => oneF vs fun v => ∃ H2, Weak H' H2 ∧ R (.returned v) H2) →
      a.defers = [] ∧ ∃ v, (results fn a.tmps).run P w' = .ok v w' ∧ ∃ H', RepF w0 F H' w' ∧ R (.returned v) H' := by
    intro a w' fr' H' h1 h2 ⟨hd, h3⟩
    obtain ⟨v, hv, H2, hw2, hR⟩ := results_ok hT h2 h3
    exact ⟨hd, v, by rw [h1]; exact hv, H2, hw2 _ _ _ h2, hR⟩
  intro e a w' ⟨fr', H', h1, h2, h3⟩
  cases e with
  | normal => exact key a w' fr' H' h1 h2 h3
  | ret => exact key a w' fr' H' h1 h2 h3
  | panic ch => obtain ⟨hd, H2, hw2, hR⟩ := h3; exact ⟨hd, H2, hw2 _ _ _ h2, hR⟩
  | exit id => exact h3.elim
  | goto l => exact h3.elim
  | outgrown => exact h3.elim

/-! ### Loops -/
/-- A loop, by a relation that each round keeps while a number falls. -/
theorem awp_loop {c : Code} (I : Nat → List Value → List Deferred → Hp → Prop) {n0 : Nat} {H1 : Hp} (hw : Weak H H1) (h0 : I n0 fr ds H1)
    (round : ∀ n fr ds H, I n fr ds H → AWp P c (seqQ (fun fr' ds' H' => ∃ m H2, m < n ∧ Weak H' H2 ∧ I m fr' ds' H2) Q) fr ds H) : AWp P (.loop c) Q fr ds H := by
  refine AWp.weak hw (awp_mk fun w0 F w hr b k cs => ?_)
  have key : ∀ n fr ds H, I n fr ds H → ∀ w, RepF w0 F H w → ∃ e a' w', liftQ w0 F Q e a' w' ∧ Arrives P (lone (b.at ⟨fr.toArray, ds⟩ (.code c :: .inLoop c :: k)) cs w) b k cs e a' w' := by
    intro n
    induction n using Nat.strongRecOn with
    | _ n ih =>
      intro fr ds H hI w hr
      obtain ⟨e, a₁, w₁, ⟨fr', H', h1, h2, h3⟩, harr⟩ := awp_ok (round n fr ds H hI) hr b (.inLoop c :: k) cs
      cases e with
      | normal =>
        obtain ⟨m, H2, hm, hw2, hI2⟩ := h3
        obtain ⟨e₂, a₂, w₂, hq₂, harr₂⟩ := ih m hm fr' a₁.defers H2 hI2 w₁ (hw2 w0 F w₁ h2)
        rw [← act_eta h1] at harr₂
        exact ⟨e₂, a₂, w₂, hq₂, .of_steps (Steps.trans harr (.one step_inLoop)) harr₂⟩
      | exit id => exact ⟨_, a₁, w₁, ⟨fr', H', h1, h2, h3⟩, .pass (x := .inLoop c) rfl (fun _ _ => .inl (by simp)) harr⟩
      | goto l => exact ⟨_, a₁, w₁, ⟨fr', H', h1, h2, h3⟩, .pass (x := .inLoop c) rfl (fun _ _ => .inl (by simp)) harr⟩
      | ret => exact ⟨_, a₁, w₁, ⟨fr', H', h1, h2, h3⟩, .pass (x := .inLoop c) rfl (fun _ _ => .inl (by simp)) harr⟩
      | panic ch => exact ⟨_, a₁, w₁, ⟨fr', H', h1, h2, h3⟩, .pass (x := .inLoop c) rfl (fun _ _ => .inl (by simp)) harr⟩
      | outgrown => exact ⟨_, a₁, w₁, ⟨fr', H', h1, h2, h3⟩, .pass (x := .inLoop c) rfl (fun _ _ => .inl (by simp)) harr⟩
  obtain ⟨e, a', w', hq, harr⟩ := key n0 fr ds H1 h0 w hr
  exact ⟨e, a', w', hq, .of_steps (.one step_loop) harr⟩

/-! Frames of a loop: the slots that matter, the others whatever they are. -/
def tabV : Nat → Nat → (Nat → Value) → List Value
  | _, 0, _ => []
  | i, n + 1, u => u i :: tabV (i + 1) n u
def setL : List Value → List Nat → List Value → List Value
  | l, i :: is, v :: vs => setL (l.set i v) is vs
  | l, _, _ => l
def getL (l : List Value) : List Nat → List Value
  | [] => []
  | i :: is => l.getD i undef :: getL l is
theorem tabV_getD (l : List Value) : ∀ k, tabV k (l.length) (fun i => l.getD (i - k) undef) = l := by
  intro k
  have key : ∀ (n k : Nat) (u : Nat → Value) (j : Nat), (tabV k n u)[j]? = if j < n then some (u (k + j)) else none := by
    intro n
    induction n with
    | zero => intros; simp [tabV]
    | succ n ih =>
      intro k u j
      cases j with
      | zero => simp [tabV]
      | succ j => simp only [tabV, List.getElem?_cons_succ, ih]; simp [Nat.add_assoc, Nat.add_comm 1 j]
  apply List.ext_getElem?
  intro j
  rw [key]
  by_cases h : j < l.length
  · simp [h]
  · simp [h]
theorem setL_getL (l : List Value) : ∀ (is : List Nat), (∀ i ∈ is, i < l.length) → setL l is (getL l is) = l
  | [], _ => rfl
  | i :: is, h => by
    have hi : i < l.length := h i (List.mem_cons_self ..)
    have : l.set i (l.getD i undef) = l := by
      apply List.ext_getElem?
      intro j
      rw [List.getElem?_set]
      by_cases hj : i = j
      · subst hj; simp [hi]
      · simp [hj]
    simp only [getL, setL, this]
    exact setL_getL l is fun j hj => h j (List.mem_cons_of_mem _ hj)
def allLt (n : Nat) : List Nat → Bool
  | [] => true
  | i :: is => Nat.blt i n && allLt n is
theorem allLt_mem {n : Nat} : ∀ {is : List Nat}, allLt n is = true → ∀ i ∈ is, i < n
  | [], _, _, h => by simp at h
  | j :: is, h, i, hi => by
    simp only [allLt, Bool.and_eq_true, Nat.blt_eq] at h
    rcases List.mem_cons.1 hi with rfl | hi
    · exact h.1
    · exact allLt_mem h.2 i hi

/-- A loop over a frame of N slots: J tells the slots of 'live'; the number falls. -/
theorem awp_loopL (hT : Tab.okFrom P 0 T) {c : Code} (N : Nat) (live : List Nat) (J : Nat → List Value → Hp → Prop) (n0 : Nat) {H1 : Hp} (hN : fr.length = N) (hlive : allLt N live = true) (hw : Weak H H1)
    (h0 : J n0 (getL fr live) H1)
    (round : ∀ n u vs H, J n vs H → codeF P T c (seqQ (fun fr' ds' H' => fr'.length = N ∧ ds' = [] ∧ ∃ m H2, m < n ∧ Weak H' H2 ∧ J m (getL fr' live) H2) Q) (setL (tabV 0 N u) live vs) [] H) : AWp P (.loop c) Q fr [] H := by
  refine awp_loop (fun n fr ds H => fr.length = N ∧ ds = [] ∧ J n (getL fr live) H) (n0 := n0) hw ⟨hN, rfl, h0⟩ ?_
  intro n fr ds H ⟨hN, hds, hJ⟩
  subst hds
  have hfr : setL (tabV 0 N fun i => fr.getD i undef) live (getL fr live) = fr := by
    subst hN
    have h1 := tabV_getD fr 0
    simp only [Nat.sub_zero] at h1
    rw [h1]
    exact setL_getL fr live (allLt_mem hlive)
  have := round n (fun i => fr.getD i undef) (getL fr live) H hJ
  rw [hfr] at this
  refine AWp.mono (codeF_ok hT _ _ _ _ _ this) ?_
  intro e fr' ds' H' h
  cases e with
  | normal => obtain ⟨a, b, m, H2, h1, h2, h3⟩ := h; exact ⟨m, H2, h1, h2, a, b, h3⟩
  | exit id => exact h
  | goto l => exact h
  | ret => exact h
  | panic ch => exact h
  | outgrown => exact h

end
end Go.Proofs.Ytohdcmkooedkcaa.A
