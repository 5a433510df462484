/- Code: what a function's text asks, computed by unfolding; and that what it asks is enough. -/
import Derived.Test.YtohdcmkooedkcaaA6
import Derived.Scope
namespace Go.Proofs.Ytohdcmkooedkcaa.A
open Go Go.RowKit
set_option linter.unusedVariables false
set_option linter.unusedSimpArgs false

section
variable {P : Program} {w0 w : World} {F : List Atom} {H : Hp} {K : Value → Hp → Prop} {E : List PanicEntry → Hp → Prop} {T : Tab}

theorem acalls_ok {f : FuncId} {args : List Value} {R : Ending → Hp → Prop} (h : ACalls P f args H R) :
    (∃ fn, P.funcs[f]? = some fn ∧ (fn.name == "runtime.NumGoroutine") = false ∧ fn.body.isNone = false) ∧
    ∀ w0 F w, RepF w0 F H w → Calls P f args.toArray w fun e w' => ∃ H', RepF w0 F H' w' ∧ R e H' := by
  unfold ACalls at h; exact h

theorem acalls_mk {f : FuncId} {args : List Value} {R : Ending → Hp → Prop} {fn : Func} (h1 : P.funcs[f]? = some fn) (h2 : (fn.name == "runtime.NumGoroutine") = false) (h3 : fn.body.isNone = false)
    (h : ∀ w0 F w, RepF w0 F H w → Calls P f args.toArray w fun e w' => ∃ H', RepF w0 F H' w' ∧ R e H') : ACalls P f args H R := by
  unfold ACalls; exact ⟨⟨fn, h1, h2, h3⟩, h⟩

theorem ACalls.mono {f : FuncId} {args : List Value} {R R' : Ending → Hp → Prop} (h : ACalls P f args H R) (hr : ∀ e H', R e H' → R' e H') : ACalls P f args H R' := by
  obtain ⟨⟨fn, h1, h2, h3⟩, hc⟩ := acalls_ok h
  exact acalls_mk h1 h2 h3 fun w0 F w hw => (hc w0 F w hw).mono fun e w' ⟨H', hr', hR⟩ => ⟨H', hr', hr _ _ hR⟩

theorem ACalls.weak {f : FuncId} {args : List Value} {H1 : Hp} {R : Ending → Hp → Prop} (hw : Weak H H1) (h : ACalls P f args H1 R) : ACalls P f args H R := by
  obtain ⟨⟨fn, h1, h2, h3⟩, hc⟩ := acalls_ok h
  exact acalls_mk h1 h2 h3 fun w0 F w hr => hc w0 F w (hw w0 F w hr)

theorem callF_ok {f : Value} {args : Array Value} {ty : Nat} (hr : RepF w0 F H w) (h : callF P f args.toList H K E) :
    OpRes P w0 F K E ((do let d ← Deferred.ofValue f args; invoke d.target d.args : Sem Next).run P w) := by
  unfold callF at h
  split at h
  · rename_i id first cap
    obtain ⟨⟨fn, h1, h2, h3⟩, hc⟩ := acalls_ok h
    have hrun : (do let d ← Deferred.ofValue (.func (.func id) first cap) args; invoke d.target d.args : Sem Next).run P w = .ok (.enter id (first ++ args ++ cap)) w := by
      have h2' : ¬ fn.name = "runtime.NumGoroutine" := by simpa using h2
      have h3' : ¬ fn.body = none := by intro e; simp [e] at h3
      simp [Deferred.ofValue, invoke, callFunc, h1, h2', h3']
    rw [hrun]
    have := hc w0 F w hr
    have he : (first.toList ++ args.toList ++ cap.toList).toArray = first ++ args ++ cap := by apply Array.toList_inj.1; simp
    rw [he] at this
    exact this
  · exact h.elim

theorem opF_ok (hT : Tab.okFrom P 0 T) (o : Oper) (fr : List Value) (hr : RepF w0 F H w) (h : opF P T o.op fr H K E) : OpRes P w0 F K E ((execOp (evL fr) o).run P w) := by
  have hval : ∀ {s : Sem Value} {v : Value} {w' : World}, s.run P w = .ok v w' → (do pure (.value (← s)) : Sem Next).run P w = .ok (.value v) w' := by
    intro s v w' hs; simp [hs]
  obtain ⟨dst, op, ty, pos, after, guard⟩ := o
  simp only at h
  cases op with
  | move x => simp only [opF, evF_iff] at h; exact ⟨H, hr, h⟩
  | assign x => simp only [opF, evF_iff] at h; exact ⟨H, hr, h⟩
  | pick c x y =>
    simp only [opF, evF_iff, pickF] at h
    split at h
    · rename_i b hc
      simp only [execOp, hc, asBool]
      rcases ifC_out h with ⟨rfl, h⟩ | ⟨rfl, h⟩
      · exact ⟨H, hr, h⟩
      · exact ⟨H, hr, h⟩
    · exact h.elim
  | alloc e =>
    simp only [opF] at h
    obtain ⟨i, hi, h⟩ := tab_get hT h
    obtain ⟨zv, hz, hc⟩ := zero_cells (w := w) hi
    have hrun : (execOp (evL fr) ⟨dst, .alloc e, ty, pos, after, guard⟩).run P w = .ok (.value (.pointer (some ⟨w.heap.size, 0, none⟩))) (w.alloc (.cells zv.cells e (0, 0))) := by
      simp [execOp, Instr.alloc, hz, newVar, newRow]
    rw [hrun, hc]
    exact ⟨_, new_cells hr e i.z, h _⟩
  | box e x =>
    simp only [opF, evF_iff, cellsF_iff] at h
    have hrun : (execOp (evL fr) ⟨dst, .box e x, ty, pos, after, guard⟩).run P w = .ok (.value (.pointer (some ⟨w.heap.size, 0, none⟩))) (w.alloc (.cells (evL fr x).cells e (0, 0))) := by
      simp [execOp, Instr.box, newVar, newRow]
    rw [hrun]
    have := new_cells hr e (evL fr x).cells.toList
    simp only [Array.toArray_toList] at this
    exact ⟨_, this, h _⟩
  | build t parts =>
    simp only [opF, evpF_iff] at h
    obtain ⟨v, hv, hk⟩ := buildF_ok (w := w) hT h
    simp only [execOp]
    have he : (parts.map fun (i, x) => (i, evL fr x)) = (parts.toList.map fun p => (p.1, evL fr p.2)).toArray := by apply Array.toList_inj.1; simp
    rw [hval (he ▸ hv)]
    exact ⟨H, hr, hk⟩
  | buildSlice t len parts =>
    simp only [opF, evpF_iff] at h
    obtain ⟨v, w', H', hv, hr', hk⟩ := buildSliceF_ok hT hr h
    simp only [execOp]
    have he : (parts.map fun (i, x) => (i, evL fr x)) = (parts.toList.map fun p => (p.1, evL fr p.2)).toArray := by apply Array.toList_inj.1; simp
    rw [hval (he ▸ hv)]
    exact ⟨H', hr', hk⟩
  | load t x =>
    simp only [opF, evF_iff] at h
    obtain ⟨v, hv, hk⟩ := loadF_ok hT hr h
    simp only [execOp]
    rw [hval hv]
    exact ⟨H, hr, hk⟩
  | store t x v =>
    simp only [opF, evF_iff] at h
    obtain ⟨w', H', hv, hr', hk⟩ := storeF_ok hT hr h
    simp only [execOp, Sem.run_bind, hv, Result.andThen_ok, Sem.run_pure]
    exact ⟨H', hr', hk⟩
  | nilCheck x =>
    simp only [opF, evF_iff] at h
    obtain ⟨hk, ⟨a, ha⟩ | ⟨f, a, b, ha⟩⟩ := nilCheckF_ok h
    · simp only [execOp, ha]; rw [ha] at hk; exact ⟨H, hr, hk⟩
    · simp only [execOp, ha]; rw [ha] at hk; exact ⟨H, hr, hk⟩
  | binOp op t x y yt =>
    simp only [opF, evF_iff] at h
    obtain ⟨v, hv, hk⟩ := binF_ok (w := w) hT h x y
    simp only [execOp]
    rw [hval hv]
    exact ⟨H, hr, hk⟩
  | unOp op t x =>
    simp only [opF, evF_iff] at h
    obtain ⟨v, hv, hk⟩ := unF_ok (P := P) (w := w) h
    simp only [execOp]
    rw [hval hv]
    exact ⟨H, hr, hk⟩
  | convert s d x =>
    simp only [opF, evF_iff] at h
    obtain ⟨v, hv, hk⟩ := convF_ok (w := w) hT h
    simp only [execOp]
    rw [hval hv]
    exact ⟨H, hr, hk⟩
  | makeInterface t x =>
    simp only [opF, evF_iff] at h
    obtain ⟨i, hi, h⟩ := tab_get hT h
    rcases ifC_out h with ⟨_, h⟩ | ⟨hif, h⟩
    · exact h.elim
    · have hu := hi.1
      have hrun : (Instr.makeInterface t (evL fr x)).run P w = .ok (.iface t (evL fr x)) w := by
        have hne : ∃ d, P.underlying t = some d ∧ ∀ ms, d ≠ .interface ms := by
          cases hd : i.d with
          | iface => rw [hd] at hif; cases hif
          | int k => rw [hd] at hu; exact ⟨_, hu, by simp⟩
          | bool => rw [hd] at hu; exact ⟨_, hu, by simp⟩
          | str => rw [hd] at hu; exact ⟨_, hu, by simp⟩
          | ptr => rw [hd] at hu; obtain ⟨e, i, hu, _⟩ := hu; exact ⟨_, hu, by simp⟩
          | func => rw [hd] at hu; obtain ⟨a, b, c, hu⟩ := hu; exact ⟨_, hu, by simp⟩
          | slice e a b c => rw [hd] at hu; exact ⟨_, hu.1, by simp⟩
          | arr n a b => rw [hd] at hu; obtain ⟨e, i, d, hu, _⟩ := hu; exact ⟨_, hu, by simp⟩
          | map k e z => rw [hd] at hu; exact ⟨_, hu.1, by simp⟩
          | struct fs => rw [hd] at hu; obtain ⟨f, hu, _⟩ := hu; exact ⟨_, hu, by simp⟩
        obtain ⟨d, hd, hne⟩ := hne
        simp only [Instr.makeInterface, Sem.run_bind, run_underlying_ok hd, Result.andThen_ok, Sem.run_pure]
      simp only [execOp]
      rw [hval hrun]
      exact ⟨H, hr, h⟩
  | makeFunc fn a b =>
    simp only [opF, evsF_iff] at h
    simp only [execOp, Instr.makeFunc]
    rw [hval (Sem.run_pure ..)]
    refine ⟨H, hr, ?_⟩
    have e1 : (a.toList.map (evL fr)).toArray = a.map (evL fr) := by apply Array.toList_inj.1; simp
    have e2 : (b.toList.map (evL fr)).toArray = b.map (evL fr) := by apply Array.toList_inj.1; simp
    rwa [e1, e2] at h
  | makeMap t r =>
    cases r with
    | some r => exact h.elim
    | none =>
      simp only [opF] at h
      obtain ⟨i, hi, h⟩ := tab_get hT h
      have hrun : (execOp (evL fr) ⟨dst, .makeMap t none, ty, pos, after, guard⟩).run P w = .ok (.value (.map (some w.heap.size))) (w.alloc (imapObj [])) := by
        simp [execOp, Instr.makeMap, imapObj, imapEs]
      rw [hrun]
      exact ⟨_, new_obj hr _, h _⟩
  | makeSlice t l c =>
    simp only [opF, evF_iff] at h
    obtain ⟨v, w', H', hv, hr', hk⟩ := makeSliceF_ok hT hr h
    simp only [execOp]
    rw [hval hv]
    exact ⟨H', hr', hk⟩
  | slice t x lo hi mx =>
    simp only [opF, evF_iff, evOptF_iff] at h
    simp only [execOp]
    obtain ⟨v, hv, hk⟩ := sliceF_ok (w := w) hT h
    rw [hval hv]
    exact ⟨H, hr, hk⟩
  | fieldAddr t x f =>
    simp only [opF, evF_iff] at h
    obtain ⟨v, hv, hk⟩ := fieldAddrF_ok (w := w) hT h
    simp only [execOp]
    rw [hval hv]
    exact ⟨H, hr, hk⟩
  | field t x f =>
    simp only [opF, evF_iff] at h
    obtain ⟨v, hv, hk⟩ := fieldF_ok (w := w) hT h
    simp only [execOp]
    rw [hval hv]
    exact ⟨H, hr, hk⟩
  | indexAddr t x i =>
    simp only [opF, evF_iff] at h
    obtain ⟨v, hv, hk⟩ := indexAddrF_ok (w := w) hT h
    simp only [execOp]
    rw [hval hv]
    exact ⟨H, hr, hk⟩
  | index t x i =>
    simp only [opF, evF_iff] at h
    obtain ⟨v, hv, hk⟩ := indexF_ok (w := w) hT h
    simp only [execOp]
    rw [hval hv]
    exact ⟨H, hr, hk⟩
  | lookup t m k ok =>
    simp only [opF, evF_iff] at h
    obtain ⟨v, hv, hk⟩ := lookupF_ok hT hr h
    simp only [execOp]
    rw [hval hv]
    exact ⟨H, hr, hk⟩
  | mapUpdate t m k v =>
    simp only [opF, evF_iff] at h
    obtain ⟨w', H', hv, hr', hk⟩ := mapUpdateF_ok hT hr h
    simp only [execOp, Sem.run_bind, hv, Result.andThen_ok, Sem.run_pure]
    exact ⟨H', hr', hk⟩
  | typeAssert x xt a ok =>
    simp only [opF, evF_iff] at h
    obtain ⟨v, hv, hk⟩ := typeAssertF_ok (w := w) (xt := xt) hT h
    simp only [execOp]
    rw [hval hv]
    exact ⟨H, hr, hk⟩
  | extract x i =>
    simp only [opF, evF_iff] at h
    split at h
    · rename_i vs hv
      obtain ⟨v, h1, hk⟩ := nthG_get h
      simp only [execOp, hv, Instr.extract]
      have h1' : vs[i]? = some v := by simpa using h1
      rw [h1']
      exact ⟨H, hr, hk⟩
    · exact h.elim
  | panic x =>
    simp only [opF, evF_iff, panicF] at h
    split at h
    · rename_i t v hv
      simp only [execOp, hv, Instr.panic]
      exact ⟨H, hr, h⟩
    · exact h.elim
  | call c =>
    obtain ⟨callee, args, ts⟩ := c
    cases callee with
    | invoke r m => exact h.elim
    | value f =>
      simp only [opF, evF_iff, evsF_iff] at h
      simp only [execOp, resolve]
      refine callF_ok (ty := 0) hr ?_
      have e1 : (args.map (evL fr)).toList = args.toList.map (evL fr) := by simp
      rw [e1]; exact h
    | builtin b =>
      simp only [opF, evsF_iff] at h
      simp only [execOp, resolve, Sem.run_bind, Sem.run_pure, Result.andThen_ok, invoke]
      have eargs : args.map (evL fr) = (args.toList.map (evL fr)).toArray := by apply Array.toList_inj.1; simp
      rw [eargs]
      unfold builtinF at h
      split at h
      · rename_i t x hts hvs
        obtain ⟨v, hv, hk⟩ := lenF_ok (ty := ty) hT hr h
        have e : ts = #[t] := by apply Array.toList_inj.1; simpa using hts
        rw [hvs, e]; simp only [builtin]; rw [hval hv]; exact ⟨H, hr, hk⟩
      · rename_i t t' s x hts hvs
        obtain ⟨v, w', H', hv, hr', hk⟩ := appendF_ok (ty := ty) hT hr h
        have e : ts = #[t, t'] := by apply Array.toList_inj.1; simpa using hts
        rw [hvs, e]; simp only [builtin]; rw [hval hv]; exact ⟨H', hr', hk⟩
      · rename_i t t' s x hts hvs
        obtain ⟨v, w', H', hv, hr', hk⟩ := copyF_ok (ty := ty) (t' := t') hT hr h
        have e : ts = #[t, t'] := by apply Array.toList_inj.1; simpa using hts
        rw [hvs, e]; simp only [builtin]; rw [hval hv]; exact ⟨H', hr', hk⟩
      · rename_i t x hts hvs
        obtain ⟨v, w', H', hv, hr', hk⟩ := clearF_ok (ty := ty) hT hr h
        have e : ts = #[t] := by apply Array.toList_inj.1; simpa using hts
        rw [hvs, e]; simp only [builtin]; rw [hval hv]; exact ⟨H', hr', hk⟩
      · rename_i x y hvs
        rw [hvs]
        unfold minF at h
        split at h
        · refine ⟨H, hr, ?_⟩; exact h
        · exact h.elim
      · rename_i x y hvs
        rw [hvs]
        unfold maxF at h
        split at h
        · refine ⟨H, hr, ?_⟩; exact h
        · exact h.elim
      · exact h.elim
  | ready _ | waits _ | insert _ _ _ _ | sliceToArrayPointer _ _ | makeChan _ _ | mapEntry _ _ _ | entryStore _ _ _ _ | range _ _ | next _ _ | entry _ | go _ | defer _ | send _ _ | recv _ _ _ | select _ _ => exact h.elim

end
end Go.Proofs.Ytohdcmkooedkcaa.A
