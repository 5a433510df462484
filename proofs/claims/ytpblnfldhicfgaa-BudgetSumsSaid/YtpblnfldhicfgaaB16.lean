/- Functions that defer budget.caught, as the heap tells it. -/
import Derived.Test.YtpblnfldhicfgaaB15
namespace Go.Proofs.Ytpblnfldhicfgaa.A
open Go Go.RowKit
set_option linter.unusedVariables false
set_option linter.unusedSimpArgs false
set_option maxRecDepth 20000

def caughtD (g : Nat) : Deferred := { target := .fn (.func 47) #[], args := #[.pointer (some ⟨g, 0, none⟩)] }
/-- What the text of a function that defers 'caught(&e)' has to come to: e lies at g. -/
def bodyQC (fn : Func) (R : Ending → Hp → Prop) : Post
  | .normal, fr, ds, H | .ret, fr, ds, H => (ds = [] ∨ ∃ g, ds = [caughtD g]) ∧ resF TT fr H fn.results.toList fun vs => oneF vs fun v => ∃ H', Weak H H' ∧ R (.returned v) H'
  | .panic ch, fr, ds, H1 => ∃ H g e, Weak H1 H ∧ ds = [caughtD g] ∧ ch = [{ v := errV e, recovered := false }] ∧ ∃ i x, H.L[i]? = some (.cells g 33 [.int .i64 x]) ∧
      resF TT fr ⟨H.M, H.L.set i (.cells g 33 [.int .i64 e])⟩ fn.results.toList fun vs => oneF vs fun v => ∃ H', Weak ⟨H.M, H.L.set i (.cells g 33 [.int .i64 e])⟩ H' ∧ R (.returned v) H'
  | _, _, _, _ => False

theorem acalls_caught {f : FuncId} {fn : Func} {c : Code} {args : List Value} {H : Hp} {R : Ending → Hp → Prop} (hf : Try.prog.funcs[f]? = some fn) (hb : fn.body = some c) (hn : (fn.name == "runtime.NumGoroutine") = false)
    (h : codeF Try.prog TT c (bodyQC fn R) (args ++ List.replicate (fn.ntmps - args.length) undef) [] H) : ACalls Try.prog f args H R := by
  refine acalls_mk hf hn (by rw [hb]; rfl) fun w0 F w hr => ?_
  refine calls_of_wp_defers hf hb ?_
  have hw := awp_ok (codeF_ok hT c _ _ _ _ h) hr
  have e : (args ++ List.replicate (fn.ntmps - args.length) undef).toArray = args.toArray ++ Array.replicate (fn.ntmps - args.toArray.size) undef := by apply Array.toList_inj.1; simp
  rw [e] at hw
  refine wp_mono hw ?_
  have fine : ∀ (a : Act) (w' : World) (fr' : List Value) (H' : Hp), a.tmps = fr'.toArray → RepF w0 F H' w' → (resF TT fr' H' fn.results.toList fun vs => oneF vs fun v => ∃ H2, Weak H' H2 ∧ R (.returned v) H2) →
      ∃ v, (results fn a.tmps).run Try.prog w' = .ok v w' ∧ ∃ H', RepF w0 F H' w' ∧ R (.returned v) H' := by
    intro a w' fr' H' h1 h2 h3
    obtain ⟨v, hv, H2, hw2, hR⟩ := results_ok hT h2 h3
    exact ⟨v, by rw [h1]; exact hv, H2, hw2 _ _ _ h2, hR⟩
  have key : ∀ (a : Act) (w' : World) (fr' : List Value) (H' : Hp), a.tmps = fr'.toArray → RepF w0 F H' w' → ((a.defers = [] ∨ ∃ g, a.defers = [caughtD g]) ∧ resF TT fr' H' fn.results.toList fun vs => oneF vs fun v => ∃ H2, Weak H' H2 ∧ R (.returned v) H2) →
      Leaves Try.prog fn a.tmps (fun e w' => ∃ H', RepF w0 F H' w' ∧ R e H') a.defers .returning w' := by
    intro a w' fr' H' h1 h2 ⟨hd, h3⟩
    rcases hd with hd | ⟨g, hd⟩
    · rw [hd]; exact fine a w' fr' H' h1 h2 h3
    · rw [hd]
      refine leaves_cons (f := 47) (args := #[.pointer (some ⟨g, 0, none⟩)]) (by simp) (by simp [go_sem]) ?_
      refine (caught_idle _ h2).mono ?_
      rintro e u' w'' ⟨⟨v, rfl⟩, rfl, h2'⟩
      exact fine a w'' fr' H' h1 h2' h3
  rintro e a w' ⟨fr', H', h1, h2, hq⟩
  cases e with
  | normal => exact key a w' fr' H' h1 h2 hq
  | ret => exact key a w' fr' H' h1 h2 hq
  | panic ch =>
    obtain ⟨H', g, e, hw1, hd, rfl, i, x, hi, h3⟩ := hq
    have h2 := hw1 _ _ _ h2
    show Leaves Try.prog fn a.tmps _ a.defers (.panicking _) w'
    rw [hd]
    have hcell : w'.heap[g]? = some (.cells #[.int .i64 x] 33 (0, 0)) := h2.holds _ (List.mem_append_left _ (List.mem_of_getElem? hi))
    have hc : w'.cell? ⟨g, 0, none⟩ = some (.int .i64 x) := by simp [World.cell?, hcell]
    have hz : w'.frozen? ⟨g, 0, none⟩ = false := by simp [World.frozen?, hcell]
    refine leaves_cons (f := 47) (args := #[.pointer (some ⟨g, 0, none⟩)]) (by simp) (by simp [go_sem]) ?_
    refine (caught_err g e x w' hc hz).mono ?_
    rintro e' u' w'' ⟨⟨v, rfl⟩, rfl, rfl⟩
    refine fine a _ fr' _ h1 ?_ h3
    have hlt : i < H'.L.length := (List.getElem?_eq_some_iff.1 hi).1
    have hi' : (H'.L ++ F)[i]? = some (.cells g 33 [.int .i64 x]) := by rw [List.getElem?_append_left hlt]; exact hi
    have := Rep.replace (w' := w'.setCell ⟨g, 0, none⟩ (.int .i64 e)) (a' := .cells g 33 [.int .i64 e]) h2 hi' ((Keeps.setCell w' ⟨g, 0, none⟩ _).mono fun k e => by subst e; rfl)
      (by show (w'.setCell ⟨g, 0, none⟩ (.int .i64 e)).heap[g]? = _; rw [heap_setCell_cells hcell]; rfl) fun k hk => .inl hk
    unfold RepF
    rw [← List.set_append_left _ _ hlt]
    exact this
  | outgrown => exact hq.elim
  | exit id => exact hq.elim
  | goto l => exact hq.elim
end Go.Proofs.Ytpblnfldhicfgaa.A
