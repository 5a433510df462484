/- Ranges over a function: what a round asks, functions that call yield, the statement, and a function's end behind it. -/
import Derived.Test.YtohdcmkooedkcaaA13
import Derived.Test.YtohdcmkooedkcaaB0
import Derived.RangeFuncRecord
import Derived.TacticsIn
namespace Go.Proofs.Ytohdcmkooedkcaa.A
open Go Go.RowKit
set_option linter.unusedVariables false
set_option linter.unusedSimpArgs false

def FW (ro : Option Nat) : Fence := { Fence.wide with round := ro }
/-- As AWp, in a round's frame, or in none. -/
@[irreducible] def AWpI (ro : Option Nat) (P : Program) (c : Code) (Q : Post) (fr : List Value) (ds : List Deferred) (H : Hp) : Prop :=
  ∀ w0 F w, RepF w0 F H w → c.wpIn (FW ro) 0 P (liftQ w0 F Q) ⟨fr.toArray, ds⟩ w
/-- A call of yield. -/
@[irreducible] def AYields (P : Program) (l : Nat) (args : List Value) (H : Hp) (R : Ending → Hp → Prop) : Prop :=
  ∀ w0 F w, RepF w0 F H w → ∃ f tmps asg bd, (Instr.yield l args.toArray).run P w = .ok (.round l f tmps asg bd) w ∧
    RoundIn Fence.wide 0 P l f tmps asg bd w fun e w' => ∃ H', RepF w0 F H' w' ∧ R e H'
def yieldF (P : Program) (v : Value) (args : List Value) (H : Hp) (K : Value → Hp → Prop) (E : List PanicEntry → Hp → Prop) : Prop :=
  match v with
  | .func (.yield l) first cap => AYields P l (first.toList ++ args) H (callK K E)
  | v => callF P v args H K E
def opYF (P : Program) (T : Tab) (o : Op) (fr : List Value) (H : Hp) (K : Value → Hp → Prop) (E : List PanicEntry → Hp → Prop) : Prop :=
  match o with
  | .defer _ => False
  | .call ⟨.value f, args, _⟩ => evF fr f fun fv => evsF fr args.toList fun vs => yieldF P fv vs H K E
  | o => opF P T o fr H K E
def stepYF (P : Program) (T : Tab) (o : Oper) (fr : List Value) (ds : List Deferred) (H : Hp) (next : List Value → List Deferred → Hp → Prop) (Q : Post) : Prop :=
  opYF P T o.op fr H (fun v H' => dstF fr o.dst v fun fr' => next fr' ds H') (fun ch H' => Q (.panic ch) fr ds H')
def opsYF (P : Program) (T : Tab) (all : List Oper) (Q : Post) : List Oper → List Value → List Deferred → Hp → Prop
  | [], fr, ds, H => Q .normal fr ds H
  | o :: rest, fr, ds, H =>
    match o.guard with
    | none => stepYF P T o fr ds H (fun fr' ds' H' => opsYF P T all Q rest fr' ds' H') Q
    | some (j, want) => guardF all fr j want (fun fr => stepYF P T o fr ds H (fun fr' ds' H' => opsYF P T all Q rest fr' ds' H') Q)
        (fun fr => dstF fr o.dst undef fun fr' => opsYF P T all Q rest fr' ds H)
def codeYF (ro : Option Nat) (P : Program) (T : Tab) : Code → Post → List Value → List Deferred → Hp → Prop
  | .skip, Q, fr, ds, H => Q .normal fr ds H
  | .label _, Q, fr, ds, H => Q .normal fr ds H
  | .region id ops draw, Q, fr, ds, H => ifC draw (AWpI ro P (.region id ops draw) Q fr ds H) (opsYF P T ops.toList Q ops.toList fr ds H)
  | .seq x y, Q, fr, ds, H => codeYF ro P T x (seqQ (fun fr ds H => codeYF ro P T y Q fr ds H) Q) fr ds H
  | .cond c x y, Q, fr, ds, H => evF fr c fun v => condF v (codeYF ro P T x Q fr ds H) (codeYF ro P T y Q fr ds H)
  | .block id c, Q, fr, ds, H => codeYF ro P T c (blockQ id Q) fr ds H
  | .loop c, Q, fr, ds, H => AWpI ro P (.loop c) Q fr ds H
  | .exit id, Q, fr, ds, H => Q (.exit id) fr ds H
  | .ret, Q, fr, ds, H => Q .ret fr ds H
  | .rangeFunc f ps a b, Q, fr, ds, H => AWpI ro P (.rangeFunc f ps a b) Q fr ds H
  | _, _, _, _, _ => False

section
variable {P : Program} {w0 w : World} {F : List Atom} {H : Hp} {T : Tab} {fr : List Value} {ds : List Deferred} {Q : Post} {ro : Option Nat}

theorem awpI_ok {c : Code} (h : AWpI ro P c Q fr ds H) (hr : RepF w0 F H w) : c.wpIn (FW ro) 0 P (liftQ w0 F Q) ⟨fr.toArray, ds⟩ w := by
  unfold AWpI at h; exact h w0 F w hr
theorem awpI_mk {c : Code} (h : ∀ w0 F w, RepF w0 F H w → c.wpIn (FW ro) 0 P (liftQ w0 F Q) ⟨fr.toArray, ds⟩ w) : AWpI ro P c Q fr ds H := by
  unfold AWpI; exact h
theorem awpI_none {c : Code} : AWpI none P c Q fr ds H ↔ AWp P c Q fr ds H := by
  constructor
  · intro h; exact awp_mk fun w0 F w hr => wpIn_wide.1 (awpI_ok h hr)
  · intro h; exact awpI_mk fun w0 F w hr => wpIn_wide.2 (awp_ok h hr)
theorem AWpI.mono {c : Code} {Q' : Post} (h : AWpI ro P c Q fr ds H) (hq : ∀ e fr ds H, Q e fr ds H → Q' e fr ds H) : AWpI ro P c Q' fr ds H :=
  awpI_mk fun w0 F w hr => wpIn_mono (awpI_ok h hr) fun e a w ⟨fr, H, h1, h2, h3⟩ => ⟨fr, H, h1, h2, hq _ _ _ _ h3⟩
theorem room_FW (n : Nat) : (FW ro).room n := room_wide n
theorem fn_FW (f : FuncId) : (FW ro).fn f := trivial
theorem depth_FW {n : Nat} : (FW ro).depth.isSome = true → 1 ≤ n := fun h => by cases h

theorem uponIn_of_opRes {o : Oper} {a : Act} {next : Act → World → Prop} {Q' : Exit → Act → World → Prop} {K : Value → Hp → Prop} {E : List PanicEntry → Hp → Prop} {r : Result Next}
    (h : OpRes P w0 F K E r) (hn : ∀ v H' w', RepF w0 F H' w' → K v H' → next (a.put o.dst v) w') (he : ∀ ch H' w', RepF w0 F H' w' → E ch H' → Q' (.panic ch) a w') : o.uponIn (FW ro) 0 P a next Q' r := by
  unfold OpRes at h
  split at h
  · obtain ⟨H', hr, hk⟩ := h; exact hn _ _ _ hr hk
  · obtain ⟨H', hr, hk⟩ := h; exact hn _ _ _ hr hk
  · rw [Oper.uponIn_enter]
    refine ⟨depth_FW, ?_⟩
    have h2 : CallsIn Fence.wide (0 - 1) P _ _ _ _ := callsIn_wide.2 h
    refine ⟨trivial, fun cs hrm => ?_⟩
    obtain ⟨e, w2, fr2, ⟨H', hr, hk⟩, x⟩ := h2.2 cs hrm
    refine ⟨e, w2, fr2, ?_, x⟩
    cases e with
    | returned v => exact hn _ _ _ hr hk
    | panicked ch => exact he _ _ _ hr hk
    | outgrown => exact hk.elim
  · obtain ⟨H', hr, hk⟩ := h; exact he _ _ _ hr hk
  · exact h.elim

theorem opYF_ok (hT : Tab.okFrom P 0 T) {o : Oper} {a : Act} {next : Act → World → Prop} {Q' : Exit → Act → World → Prop} {K : Value → Hp → Prop} {E : List PanicEntry → Hp → Prop} (hr : RepF w0 F H w) (h : opYF P T o.op fr H K E)
    (hn : ∀ v H' w', RepF w0 F H' w' → K v H' → next (a.put o.dst v) w') (he : ∀ ch H' w', RepF w0 F H' w' → E ch H' → Q' (.panic ch) a w') :
    o.uponIn (FW ro) 0 P a next Q' ((o.semAt ro (evL fr)).run P w) := by
  have plain : (∀ c, o.op ≠ .defer c) → opF P T o.op fr H K E → o.uponIn (FW ro) 0 P a next Q' ((o.semAt ro (evL fr)).run P w) := fun hd h => by
    rw [Oper.semAt_eq ro _ o hd]
    exact uponIn_of_opRes (opF_ok hT o fr hr h) hn he
  unfold opYF at h
  split at h
  · exact h.elim
  · rename_i f args ts ho
    have hd : ∀ c, o.op ≠ .defer c := fun c e => by rw [ho] at e; cases e
    simp only [evF_iff, evsF_iff] at h
    unfold yieldF at h
    split at h
    · rename_i l first cap hv
      unfold AYields at h
      obtain ⟨f', tmps, asg, bd, hy, hround⟩ := h w0 F w hr
      rw [Oper.semAt_eq ro _ o hd]
      have hrun : (execOp (evL fr) o).run P w = .ok (.round l f' tmps asg bd) w := by
        rw [← hy]
        have e2 : first ++ (args.map (evL fr)) = (first.toList ++ List.map (evL fr) args.toList).toArray := by apply Array.toList_inj.1; simp
        simp only [execOp, ho, resolve, hv, Deferred.ofValue, Sem.run_pure, Sem.run_bind, Result.andThen_ok, invoke]
        rw [← e2]
      rw [hrun, Oper.uponIn_round]
      refine ⟨depth_FW, ?_⟩
      have h2 : RoundIn Fence.wide (0 - 1) P l f' tmps asg bd w _ := hround
      refine RoundIn.mono (F := FW ro) h2 fun e w2 ⟨H', hr2, hk⟩ => ?_
      cases e with
      | returned v => exact hn _ _ _ hr2 hk
      | panicked ch => exact he _ _ _ hr2 hk
      | outgrown => exact hk.elim
    · refine plain hd ?_
      rw [ho]
      simp only [opF, evF_iff, evsF_iff]
      exact h
  · rename_i hnd hnc
    exact plain (fun c e => hnd c e) h
theorem act_put_tmps (fr : List Value) (ds : List Deferred) (d : Option Tmp) (v : Value) : (Act.mk fr.toArray ds).put d v = ⟨(setD fr d v).toArray, ds⟩ := put_setD fr ds d v
theorem stepYF_ok (hT : Tab.okFrom P 0 T) {o : Oper} {next : List Value → List Deferred → Hp → Prop} (h : stepYF P T o fr ds H next Q) (hr : RepF w0 F H w) :
    o.wpIn (FW ro) 0 P ⟨fr.toArray, ds⟩ w (fun a w => ∃ fr H, a.tmps = fr.toArray ∧ RepF w0 F H w ∧ next fr a.defers H) (liftQ w0 F Q) := by
  unfold stepYF at h
  refine ⟨fun f _ => trivial, ?_⟩
  show o.uponIn (FW ro) 0 P ⟨fr.toArray, ds⟩ _ _ ((o.semAt ro (Act.eval ⟨fr.toArray, ds⟩)).run P w)
  rw [evL_eq]
  refine opYF_ok hT hr h (fun v H' w' hr' hk => ?_) (fun ch H' w' hr' hk => ⟨fr, H', rfl, hr', hk⟩)
  rw [dstF_iff] at hk
  rw [put_setD]
  exact ⟨_, H', rfl, hr', hk⟩
theorem wpListIn_of (hT : Tab.okFrom P 0 T) {ops : Array Oper} : ∀ (l : List Oper) (fr : List Value) (ds : List Deferred) (H : Hp) (w : World), opsYF P T ops.toList Q l fr ds H → RepF w0 F H w → wpListIn (FW ro) 0 P ops (liftQ w0 F Q) l ⟨fr.toArray, ds⟩ w
  | [], fr, ds, H, w, h, hr => ⟨fr, H, rfl, hr, h⟩
  | o :: rest, fr, ds, H, w, h, hr => by
    have next : ∀ a w, (∃ fr H, a.tmps = fr.toArray ∧ RepF w0 F H w ∧ opsYF P T ops.toList Q rest fr a.defers H) → wpListIn (FW ro) 0 P ops (liftQ w0 F Q) rest a w := by
      intro a w ⟨fr', H', h1, h2, h3⟩
      have := wpListIn_of hT rest fr' a.defers H' w h3 h2
      rwa [← act_eta h1] at this
    have mono : ∀ {a : Act} {w : World}, o.wpIn (FW ro) 0 P a w (fun a w => ∃ fr H, a.tmps = fr.toArray ∧ RepF w0 F H w ∧ opsYF P T ops.toList Q rest fr a.defers H) (liftQ w0 F Q) → o.wpIn (FW ro) 0 P a w (wpListIn (FW ro) 0 P ops (liftQ w0 F Q) rest) (liftQ w0 F Q) := by
      intro a w ⟨h1, h2⟩
      refine ⟨h1, ?_⟩
      generalize (o.semAt (FW ro).round a.eval).run P w = r at h2
      cases r with
      | ok n w' =>
        cases n with
        | value v => exact next _ _ h2
        | skip => exact next _ _ h2
        | «defer» d => exact next _ _ h2
        | enter f args =>
          refine ⟨h2.1, fn_FW f, fun cs hr => ?_⟩
          obtain ⟨e, w'', fr', hR, x⟩ := h2.2.2 cs hr
          refine ⟨e, w'', fr', ?_, x⟩
          cases e with
          | returned v => exact next _ _ hR
          | panicked ch => exact hR
          | outgrown => exact hR
        | row r args => exact ⟨h2.1, h2.2.mono fun v w'' hR => next _ _ hR⟩
        | round l f tmps asg bd =>
          refine ⟨h2.1, RoundIn.mono h2.2 fun e w'' hR => ?_⟩
          cases e with
          | returned v => exact next _ _ hR
          | panicked ch => exact hR
          | outgrown => exact hR
        | _ => exact h2
      | halt x w' =>
        cases x <;> exact h2
    unfold opsYF at h
    unfold wpListIn
    split at h
    · rename_i hg
      have hw : Region.wanted o (yielded ops (Act.mk fr.toArray ds).tmps) = true := by simp [Region.wanted, hg]
      rw [if_pos hw]
      exact mono (stepYF_ok hT h hr)
    · rename_i j want hg
      rcases guardF_ok h with ⟨hy, h⟩ | ⟨hy, h⟩
      · have hw : Region.wanted o (yielded ops (Act.mk fr.toArray ds).tmps) = true := by simp [Region.wanted, hg, hy]
        rw [if_pos hw]
        exact mono (stepYF_ok hT h hr)
      · have hw : ¬ (Region.wanted o (yielded ops (Act.mk fr.toArray ds).tmps) = true) := by simp [Region.wanted, hg, hy]
        rw [if_neg hw, put_setD]
        rw [dstF_iff] at h
        exact ⟨fun f _ => trivial, wpListIn_of hT rest _ ds H w h hr⟩
theorem codeYF_ok (hT : Tab.okFrom P 0 T) : ∀ (c : Code) (Q : Post) (fr : List Value) (ds : List Deferred) (H : Hp), codeYF ro P T c Q fr ds H → AWpI ro P c Q fr ds H := by
  intro c
  induction c with
  | skip => intro Q fr ds H h; exact awpI_mk fun w0 F w hr => wpIn_skip ⟨fr, H, rfl, hr, h⟩
  | label l => intro Q fr ds H h; exact awpI_mk fun w0 F w hr => wpIn_label ⟨fr, H, rfl, hr, h⟩
  | region id ops draw =>
    intro Q fr ds H h
    simp only [codeYF] at h
    rcases ifC_out h with ⟨_, h⟩ | ⟨rfl, h⟩
    · exact h
    · exact awpI_mk fun w0 F w hr => wpIn_region_list (wpListIn_of hT ops.toList fr ds H w h hr)
  | seq x y ihx ihy =>
    intro Q fr ds H h
    refine awpI_mk fun w0 F w hr => wpIn_seq (wpIn_mono (awpI_ok (ihx _ _ _ _ h) hr) ?_)
    intro e a w' ⟨fr', H', h1, h2, h3⟩
    cases e with
    | normal =>
      have := awpI_ok (ihy _ _ _ _ h3) h2
      rwa [← act_eta h1] at this
    | exit id => exact ⟨fr', H', h1, h2, h3⟩
    | goto l => exact ⟨fr', H', h1, h2, h3⟩
    | ret => exact ⟨fr', H', h1, h2, h3⟩
    | panic ch => exact ⟨fr', H', h1, h2, h3⟩
    | outgrown => exact ⟨fr', H', h1, h2, h3⟩
  | cond c x y ihx ihy =>
    intro Q fr ds H h
    simp only [codeYF, evF_iff, condF] at h
    split at h
    · rename_i b hb
      refine awpI_mk fun w0 F w hr => wpIn_cond (t := b) (by rw [evL_eq]; exact hb) ?_
      rcases ifC_out h with ⟨rfl, h⟩ | ⟨rfl, h⟩
      · exact awpI_ok (ihx _ _ _ _ h) hr
      · exact awpI_ok (ihy _ _ _ _ h) hr
    · exact h.elim
  | block id c ih =>
    intro Q fr ds H h
    refine awpI_mk fun w0 F w hr => wpIn_block (wpIn_mono (awpI_ok (ih _ _ _ _ h) hr) ?_)
    intro e a w' ⟨fr', H', h1, h2, h3⟩
    cases e with
    | exit id' =>
      simp only [blockQ] at h3
      rcases ifC_out h3 with ⟨hb, h3⟩ | ⟨hb, h3⟩
      · have hb := Nat.eq_of_beq_eq_true hb
        simp only [Exit.inBlock, hb, if_true]
        exact ⟨fr', H', h1, h2, h3⟩
      · have hb := Nat.ne_of_beq_eq_false hb
        simp only [Exit.inBlock, hb, if_false]
        exact ⟨fr', H', h1, h2, h3⟩
    | normal => exact ⟨fr', H', h1, h2, h3⟩
    | goto l => exact ⟨fr', H', h1, h2, h3⟩
    | ret => exact ⟨fr', H', h1, h2, h3⟩
    | panic ch => exact ⟨fr', H', h1, h2, h3⟩
    | outgrown => exact ⟨fr', H', h1, h2, h3⟩
  | loop c _ => intro Q fr ds H h; exact h
  | rangeFunc f ps a b _ _ => intro Q fr ds H h; exact h
  | exit id => intro Q fr ds H h; exact awpI_mk fun w0 F w hr => wpIn_exit ⟨fr, H, rfl, hr, h⟩
  | scope c ih => intro Q fr ds H h; exact h.elim
  | goto l => intro Q fr ds H h; exact h.elim
  | ret => intro Q fr ds H h; exact awpI_mk fun w0 F w hr => wpIn_ret ⟨fr, H, rfl, hr, h⟩
  | refuse why => intro Q fr ds H h; exact h.elim
theorem acalls_codeY (hT : Tab.okFrom P 0 T) {f : FuncId} {fn : Func} {c : Code} {args : List Value} {R : Ending → Hp → Prop} (hf : P.funcs[f]? = some fn) (hb : fn.body = some c) (hn : (fn.name == "runtime.NumGoroutine") = false)
    (h : codeYF none P T c (bodyQ T fn R) (args ++ List.replicate (fn.ntmps - args.length) undef) [] H) : ACalls P f args H R := by
  refine acalls_mk hf hn (by rw [hb]; rfl) fun w0 F w hr => ?_
  refine calls_of_wp hf hb ?_
  have hw := awp_ok (awpI_none.1 (codeYF_ok hT c _ _ _ _ h)) hr
  have e : (args ++ List.replicate (fn.ntmps - args.length) undef).toArray = args.toArray ++ Array.replicate (fn.ntmps - args.toArray.size) undef := by apply Array.toList_inj.1; simp
  rw [e] at hw
  refine wp_mono hw ?_
  have key : ∀ (a : Act) (w' : World) (fr' : List Value) (H' : Hp), a.tmps = fr'.toArray → RepF w0 F H' w' → (a.defers = [] ∧ resF T fr' H' fn.results.toList fun vs => oneF vs fun v => ∃ H2, Weak H' H2 ∧ R (.returned v) H2) →
      a.defers = [] ∧ ∃ v, (results fn a.tmps).run P w' = .ok v w' ∧ ∃ H', RepF w0 F H' w' ∧ R (.returned v) H' := by
    intro a w' fr' H' h1 h2 ⟨hd, h3⟩
    obtain ⟨v, hv, H2, hw2, hR⟩ := results_ok hT h2 h3
    exact ⟨hd, v, by rw [h1]; exact hv, H2, hw2 _ _ _ h2, hR⟩
  intro e a w' ⟨fr', H', h1, h2, h3⟩
  cases e with
  | normal => exact key a w' fr' H' h1 h2 h3
  | ret => exact key a w' fr' H' h1 h2 h3
  | panic ch => obtain ⟨hd, H2, hw2, hR⟩ := h3; exact ⟨hd, H2, hw2 _ _ _ h2, hR⟩
  | exit id => exact h3.elim
  | goto l => exact h3.elim
  | outgrown => exact h3.elim
/-- A loop whose rounds call yield. -/
theorem awp_loopY (hT : Tab.okFrom P 0 T) {c : Code} (N : Nat) (live : List Nat) (J : Nat → List Value → Hp → Prop) (n0 : Nat) {H1 : Hp} (hN : fr.length = N) (hlive : allLt N live = true) (hw : Weak H H1)
    (h0 : J n0 (getL fr live) H1)
    (round : ∀ n u vs H, J n vs H → codeYF none P T c (seqQ (fun fr' ds' H' => fr'.length = N ∧ ds' = [] ∧ ∃ m H2, m < n ∧ Weak H' H2 ∧ J m (getL fr' live) H2) Q) (setL (tabV 0 N u) live vs) [] H) : AWpI none P (.loop c) Q fr [] H := by
  refine awpI_none.2 (awp_loop (fun n fr ds H => fr.length = N ∧ ds = [] ∧ J n (getL fr live) H) (n0 := n0) hw ⟨hN, rfl, h0⟩ ?_)
  intro n fr ds H ⟨hN, hds, hJ⟩
  subst hds
  have hfr : setL (tabV 0 N fun i => fr.getD i undef) live (getL fr live) = fr := by
    subst hN
    have h1 := tabV_getD fr 0
    simp only [Nat.sub_zero] at h1
    rw [h1]
    exact setL_getL fr live (allLt_mem hlive)
  have := round n (fun i => fr.getD i undef) (getL fr live) H hJ
  rw [hfr] at this
  refine AWp.mono (awpI_none.1 (codeYF_ok hT _ _ _ _ _ this)) ?_
  intro e fr' ds' H' h
  cases e with
  | normal => obtain ⟨a, b, m, H2, h1, h2, h3⟩ := h; exact ⟨m, H2, h1, h2, a, b, h3⟩
  | exit id => exact h
  | goto l => exact h
  | ret => exact h
  | panic ch => exact h
  | outgrown => exact h

/-! ### A round -/
def roundQ (l : Nat) (rec : Loop) (R : Ending → Hp → Prop) : Post
  | .normal, _, _, H => R (.returned (.bool true)) ⟨H.M, .obj l (.loop { rec with state := .ready, pending := none }) :: H.L⟩
  | .ret, _, _, H => R (.returned (.bool false)) ⟨H.M, .obj l (.loop { rec with state := .done, pending := some .ret }) :: H.L⟩
  | .exit id, _, _, H => R (.returned (.bool false)) ⟨H.M, .obj l (.loop { rec with state := .done, pending := some (.exit id) }) :: H.L⟩
  | _, _, _, _ => False
def onlyQ (K : List Value → Hp → Prop) : Post
  | .normal, fr, ds, H => ds = [] ∧ K fr H
  | _, _, _, _ => False
theorem Keeps.putObj (w : World) (l : Nat) (o : Obj) : Keeps (fun k => k = l) w (w.putObj l o) :=
  ⟨rfl, rfl, rfl, by simp, fun k _ hk => World.putObj_heap_other hk⟩
theorem rep_putObj {M : Nat → Option Obj} {L : List Atom} {l : Nat} {o o' : Obj} (hr : RepF w0 F ⟨M, .obj l o :: L⟩ w) : RepF w0 F ⟨M, .obj l o' :: L⟩ (w.putObj l o') := by
  have hh := hr.holds (.obj l o) (by simp)
  have hlt : l < w.heap.size := (Array.getElem?_eq_some_iff.1 hh).1
  exact Rep.replace (L := .obj l o :: (L ++ F)) (i := 0) (a := .obj l o) (a' := .obj l o') hr rfl ((Keeps.putObj w l o').mono fun k e => by subst e; rfl) (World.putObj_heap_same hlt) (fun g hg => .inl (by simpa [Atom.foot] using hg))
theorem ayields_mk (hT : Tab.okFrom P 0 T) {l : Nat} {rec : Loop} {M : Nat → Option Obj} {L : List Atom} {args : List Value} {R : Ending → Hp → Prop} (hst : rec.state = .ready) (hn : rec.params.size = args.length) (fr0 : List Value)
    (hfr : (rec.params.zip args.toArray).foldl (fun t (p, v) => t.setIfInBounds p v) rec.tmps = fr0.toArray)
    (h : codeYF (some l) P T rec.assign (onlyQ fun fr1 H1 => codeYF (some l) P T rec.body (roundQ l rec R) fr1 [] H1) fr0 [] ⟨M, L⟩) : AYields P l args ⟨M, .obj l (.loop rec) :: L⟩ R := by
  unfold AYields
  intro w0 F w hr
  have hrec : w.heap[l]? = some (.loop rec) := hr.holds (.obj l (.loop rec)) (by simp)
  refine ⟨rec.fn, _, rec.assign, rec.body, run_yield hrec (by simp [hn]), ?_⟩
  refine roundIn_of_wpIn trivial ?_
  have hfr' : (rec.params.zip args.toArray).foldl (fun tmps (x : Tmp × Value) => tmps.setIfInBounds x.1 x.2) rec.tmps = fr0.toArray := hfr
  rw [show (fun (tmps : Array Value) (x : Tmp × Value) => match x with | (t, a) => tmps.setIfInBounds t a) = fun tmps x => tmps.setIfInBounds x.1 x.2 from rfl, hfr']
  have hr1 : RepF w0 (.obj l (.loop rec) :: F) ⟨M, L⟩ w := Rep.perm hr (List.perm_middle (l₁ := L) (l₂ := F) (a := Atom.obj l (Obj.loop rec))).symm
  have hw := awpI_ok (codeYF_ok hT _ _ _ _ _ h) hr1
  refine wpIn_mono hw ?_
  intro e a w1 ⟨fr1, H1, h1, h2, h3⟩
  cases e with
  | normal =>
    obtain ⟨hds, h3⟩ := h3
    have h2' : RepF w0 F ⟨H1.M, .obj l (.loop rec) :: H1.L⟩ w1 := Rep.perm h2 (List.perm_middle (l₁ := H1.L) (l₂ := F) (a := Atom.obj l (Obj.loop rec)))
    have hrec1 : w1.heap[l]? = some (.loop rec) := h2'.holds (.obj l (.loop rec)) (by simp)
    refine ⟨_, run_beginRound hrec1 hst, ?_⟩
    have hr2 := rep_putObj (o' := .loop { rec with state := .busy }) h2'
    have hr3 : RepF w0 (.obj l (.loop { rec with state := .busy }) :: F) ⟨H1.M, H1.L⟩ _ := Rep.perm hr2 (List.perm_middle (l₁ := H1.L) (l₂ := F) (a := Atom.obj l (Obj.loop { rec with state := .busy }))).symm
    have hb := awpI_ok (codeYF_ok hT _ _ _ _ _ h3) hr3
    have ea : a = ⟨fr1.toArray, []⟩ := by cases a; simp_all
    rw [ea]
    refine wpIn_mono hb ?_
    intro e2 a2 w2 ⟨fr2, H2, g1, g2, g3⟩
    have g2' : RepF w0 F ⟨H2.M, .obj l (.loop { rec with state := .busy }) :: H2.L⟩ w2 := Rep.perm g2 (List.perm_middle (l₁ := H2.L) (l₂ := F) (a := Atom.obj l (Obj.loop { rec with state := .busy })))
    have hrec2 : w2.heap[l]? = some (.loop { rec with state := .busy }) := g2'.holds (.obj l (.loop { rec with state := .busy })) (by simp)
    cases e2 with
    | normal => exact ⟨_, _, run_endRound none hrec2, _, rep_putObj g2', g3⟩
    | ret => exact ⟨_, _, run_endRound (some .ret) hrec2, _, rep_putObj g2', g3⟩
    | exit id => exact ⟨_, _, run_endRound (some (.exit id)) hrec2, _, rep_putObj g2', g3⟩
    | goto t => exact g3.elim
    | panic ch => exact g3.elim
    | outgrown => exact g3.elim
  | exit id => exact h3.elim
  | goto t => exact h3.elim
  | ret => exact h3.elim
  | panic ch => exact h3.elim
  | outgrown => exact h3.elim
theorem AYields.mono {l : Nat} {args : List Value} {R R' : Ending → Hp → Prop} (h : AYields P l args H R) (hr : ∀ e H', R e H' → R' e H') : AYields P l args H R' := by
  unfold AYields at *
  intro w0 F w hw
  obtain ⟨f, tmps, asg, bd, h1, h2⟩ := h w0 F w hw
  exact ⟨f, tmps, asg, bd, h1, h2.mono fun e w' ⟨H', a, b⟩ => ⟨H', a, hr _ _ b⟩⟩
theorem AYields.weak {l : Nat} {args : List Value} {R : Ending → Hp → Prop} {H1 : Hp} (hw : Weak H H1) (h : AYields P l args H1 R) : AYields P l args H R := by
  unfold AYields at *
  intro w0 F w hr
  exact h w0 F w (hw w0 F w hr)

/-! ### The statement -/
def collD (d : Nat) : Deferred := { target := .collected d, args := #[] }
def recL (fn : FuncId) (fr : List Value) (ps : Array Tmp) (asg bd : Code) (d : Nat) : Loop := { state := .ready, pending := none, fn, tmps := fr.toArray, params := ps, assign := asg, body := bd, defers := d }
def endQ (P : Program) (T : Tab) (rec : Loop) (l : Nat) (Q : Post) (fr : List Value) (ds : List Deferred) : Ending → Hp → Prop
  | .returned _, H' => ∃ st pe M2 L2, st ≠ LoopState.busy ∧ Weak H' ⟨M2, .obj l (.loop { rec with state := st, pending := pe }) :: L2⟩ ∧ (match pe with
      | none => Q .normal fr ds ⟨M2, L2⟩
      | some c => codeF P T c Q fr ds ⟨M2, L2⟩)
  | _, _ => False
theorem awp_rangeFunc (hT : Tab.okFrom P 0 T) {g : Operand} {ps : Array Tmp} {asg bd : Code} {f : FuncId} {first cap : Array Value} (hg : evL fr g = .func (.func f) first cap)
    (h : ∀ fn d l, ACalls P f (first.toList ++ [.func (.yield l) #[] #[]] ++ cap.toList) ⟨H.M, .obj l (.loop (recL fn fr ps asg bd d)) :: .obj d (.deferred (some [])) :: H.L⟩ (endQ P T (recL fn fr ps asg bd d) l Q fr (collD d :: ds))) :
    AWp P (.rangeFunc g ps asg bd) Q fr ds H := by
  refine awp_mk fun w0 F w hr => ?_
  rw [← wpIn_wide (n := 0)]
  refine wpIn_rangeFunc fun fn _ => ?_
  have hr1 : RepF w0 F ⟨H.M, .obj w.heap.size (.deferred (some [])) :: H.L⟩ (w.alloc (.deferred (some []))) :=
    Rep.add (L := H.L ++ F) hr (Keeps.alloc _ w _) (World.alloc_heap_new w _) (fun g hg => by simp only [Atom.foot, Option.some.injEq] at hg; omega)
  have hr2 : RepF w0 F ⟨H.M, .obj (w.heap.size + 1) (.loop (recL fn fr ps asg bd w.heap.size)) :: .obj w.heap.size (.deferred (some [])) :: H.L⟩ ((w.alloc (.deferred (some []))).alloc (.loop (recL fn fr ps asg bd w.heap.size))) := by
    refine Rep.add (L := .obj w.heap.size (.deferred (some [])) :: (H.L ++ F)) hr1 (Keeps.alloc _ _ _) ?_ (fun g hg => by simp only [Atom.foot, Option.some.injEq] at hg; simp; omega)
    have := World.alloc_heap_new (w.alloc (.deferred (some []))) (.loop (recL fn fr ps asg bd w.heap.size))
    rw [World.size_alloc] at this
    exact this
  obtain ⟨⟨fn', h1, h2, h3⟩, hc⟩ := acalls_ok (h fn w.heap.size (w.heap.size + 1))
  refine ⟨w.heap.size + 1, [collD w.heap.size], (w.alloc (.deferred (some []))).alloc (.loop (recL fn fr ps asg bd w.heap.size)), { target := .fn (.func f) cap, args := first ++ #[.func (.yield (w.heap.size + 1)) #[] #[]] }, (w.alloc (.deferred (some []))).alloc (.loop (recL fn fr ps asg bd w.heap.size)), f, first ++ #[.func (.yield (w.heap.size + 1)) #[] #[]] ++ cap, (w.alloc (.deferred (some []))).alloc (.loop (recL fn fr ps asg bd w.heap.size)), run_enterLoop_outer fn _ ps asg bd, ?_, fun f' _ => trivial, ?_, (fun h => by cases h), ?_⟩
  · simp only [resolve, rangeCall]
    rw [evL_eq, hg]
    simp [Deferred.ofValue, evL]
  · have h2' : ¬ fn'.name = "runtime.NumGoroutine" := by simpa using h2
    have h3' : ¬ fn'.body = none := by intro e; simp [e] at h3
    simp [invoke, callFunc, h1, h2', h3']
  · refine callsIn_wide.2 ?_
    have he : (first.toList ++ [Value.func (.yield (w.heap.size + 1)) #[] #[]] ++ cap.toList).toArray = first ++ #[.func (.yield (w.heap.size + 1)) #[] #[]] ++ cap := by apply Array.toList_inj.1; simp
    have := hc w0 F _ hr2
    rw [he] at this
    refine this.mono fun e w3 ⟨H', hr3, hq⟩ => ?_
    cases e with
    | returned v =>
      obtain ⟨st, pe, M2, L2, hst, hw, hq⟩ := hq
      have hr4 := hw _ _ _ hr3
      have hrec := hr4.holds (.obj (w.heap.size + 1) (.loop { recL fn fr ps asg bd w.heap.size with state := st, pending := pe })) (by simp)
      refine ⟨pe, _, run_endLoop hrec hst, ?_⟩
      have hr5 : RepF w0 F ⟨M2, L2⟩ _ := Rep.drop (L := L2 ++ F) (rep_putObj (o' := .loop { recL fn fr ps asg bd w.heap.size with state := .exhausted, pending := pe }) hr4)
      cases pe with
      | none => exact ⟨fr, _, rfl, hr5, hq⟩
      | some c => exact wpIn_wide.2 (awp_ok (codeF_ok hT c _ _ _ _ hq) hr5)
    | panicked ch => exact hq.elim
    | outgrown => exact hq.elim

theorem foldl_two {p q : Nat} {a b : Value} {l : List Value} : ((#[p, q] : Array Tmp).zip ([a, b] : List Value).toArray).foldl (fun t (x : Tmp × Value) => t.setIfInBounds x.1 x.2) l.toArray = ((l.set p a).set q b).toArray := by
  simp
theorem ayields_two (hT : Tab.okFrom P 0 T) {l : Nat} {fn : FuncId} {p q : Tmp} {asg bd : Code} {d : Nat} {M : Nat → Option Obj} {L : List Atom} {a b : Value} {R : Ending → Hp → Prop}
    (h : codeYF (some l) P T asg (onlyQ fun fr1 H1 => codeYF (some l) P T bd (roundQ l (recL fn fr #[p, q] asg bd d) R) fr1 [] H1) ((fr.set p a).set q b) [] ⟨M, L⟩) : AYields P l [a, b] ⟨M, .obj l (.loop (recL fn fr #[p, q] asg bd d)) :: L⟩ R :=
  ayields_mk hT rfl rfl _ foldl_two h

/-! ### A function's end behind it -/
/-- The result is read where the block has been shut. -/
theorem shut_deferred {M : Nat → Option Obj} {L : List Atom} {d i : Nat} (hi : L[i]? = some (Atom.obj d (.deferred (some [])))) (hr : RepF w0 F ⟨M, L⟩ w) : (Instr.takeDeferred d).run P w = .ok [] (w.putObj d (.deferred none)) ∧ RepF w0 F ⟨M, L.set i (.obj d (.deferred none))⟩ (w.putObj d (.deferred none)) := by
  have hil : i < L.length := (List.getElem?_eq_some_iff.1 hi).1
  have hi' : (L ++ F)[i]? = some (Atom.obj d (.deferred (some []))) := by rw [List.getElem?_append_left hil]; exact hi
  have hh := hr.holds (Atom.obj d (.deferred (some []))) (List.mem_of_getElem? hi')
  have hlt : d < w.heap.size := (Array.getElem?_eq_some_iff.1 hh).1
  refine ⟨run_takeDeferred hh, ?_⟩
  have := Rep.replace (a' := .obj d (.deferred none)) hr hi' ((Keeps.putObj w d (.deferred none)).mono fun k e => by subst e; rfl) (World.putObj_heap_same hlt) (fun g hg => .inl (by simpa [Atom.foot] using hg))
  rw [List.set_append_left _ _ hil] at this
  exact this
def resM (T : Tab) (fn : Func) (R : Ending → Hp → Prop) (fr : List Value) (H : Hp) : Prop := resF T fr H fn.results.toList fun vs => oneF vs fun v => ∃ H', Weak H H' ∧ R (.returned v) H'
/-- What the text of a function with one such statement has to come to: the block of the statement may be anywhere in what it owns, or there is none yet. -/
def bodyQR (T : Tab) (fn : Func) (R : Ending → Hp → Prop) : Post
  | .normal, fr, ds, H | .ret, fr, ds, H => (ds = [] ∧ resM T fn R fr H) ∨ ∃ d i, ds = [collD d] ∧ H.L[i]? = some (Atom.obj d (.deferred (some []))) ∧ resM T fn R fr ⟨H.M, H.L.set i (Atom.obj d (.deferred none))⟩
  | _, _, _, _ => False
theorem acalls_codeR (hT : Tab.okFrom P 0 T) {f : FuncId} {fn : Func} {c : Code} {args : List Value} {R : Ending → Hp → Prop} (hf : P.funcs[f]? = some fn) (hb : fn.body = some c) (hn : (fn.name == "runtime.NumGoroutine") = false)
    (h : codeF P T c (bodyQR T fn R) (args ++ List.replicate (fn.ntmps - args.length) undef) [] H) : ACalls P f args H R := by
  refine acalls_mk hf hn (by rw [hb]; rfl) fun w0 F w hr => ?_
  refine (callsIn_wide (n := 0)).1 (callsIn_of_wp_marks hf hb trivial ?_)
  have hw := awp_ok (codeF_ok hT c _ _ _ _ h) hr
  have e : (args ++ List.replicate (fn.ntmps - args.length) undef).toArray = args.toArray ++ Array.replicate (fn.ntmps - args.toArray.size) undef := by apply Array.toList_inj.1; simp
  rw [e] at hw
  refine wpIn_mono (wpIn_wide.2 hw) ?_
  have fin2 : ∀ (fr' : List Value) (H' : Hp) (w' : World), RepF w0 F H' w' → resM T fn R fr' H' → ∃ v, (results fn fr'.toArray).run P w' = .ok v w' ∧ ∃ H', RepF w0 F H' w' ∧ R (.returned v) H' := by
    intro fr' H' w' h2 h3
    obtain ⟨v, hv, H2, hw2, hR⟩ := results_ok hT h2 h3
    exact ⟨v, hv, H2, hw2 _ _ _ h2, hR⟩
  have key : ∀ (a : Act) (w' : World) (fr' : List Value) (H' : Hp), a.tmps = fr'.toArray → RepF w0 F H' w' → ((a.defers = [] ∧ resM T fn R fr' H') ∨ ∃ d i, a.defers = [collD d] ∧ H'.L[i]? = some (Atom.obj d (.deferred (some []))) ∧ resM T fn R fr' ⟨H'.M, H'.L.set i (Atom.obj d (.deferred none))⟩) →
      LeavesInM Fence.wide 0 P fn a.tmps (fun e w' => ∃ H', RepF w0 F H' w' ∧ R e H') a.defers .returning w' := by
    intro a w' fr' H' h1 h2 h3
    rw [h1]
    rcases h3 with ⟨hd, h3⟩ | ⟨d, i, hd, hi, h3⟩
    · rw [hd]
      exact fin2 _ _ _ h2 h3
    · rw [hd]
      obtain ⟨ht, hr2⟩ := shut_deferred (P := P) hi h2
      exact ⟨by simp, .inl ⟨d, _, rfl, ht, fin2 _ _ _ hr2 h3⟩⟩
  intro e a w' ⟨fr', H', h1, h2, h3⟩
  cases e with
  | normal => exact key a w' fr' H' h1 h2 h3
  | ret => exact key a w' fr' H' h1 h2 h3
  | panic ch => exact h3.elim
  | exit id => exact h3.elim
  | goto l => exact h3.elim
  | outgrown => exact h3.elim
end
end Go.Proofs.Ytohdcmkooedkcaa.A
