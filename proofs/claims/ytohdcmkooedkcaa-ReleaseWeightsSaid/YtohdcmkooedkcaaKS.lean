/- slices.Sort and slices.Compact at ints. -/
import Derived.Test.YtohdcmkooedkcaaK1
import Derived.Test.YtohdcmkooedkcaaSH
namespace Go.Proofs.Ytohdcmkooedkcaa.A
open Go Go.RowKit
set_option linter.unusedVariables false
set_option linter.unusedSimpArgs false
set_option maxRecDepth 4000

theorem keeps_grow (w : World) (os : Array Obj) : Keeps (fun _ => False) w (Go.Sort.grow w os) :=
  ⟨rfl, rfl, rfl, by simp [Go.Sort.grow], fun k hk _ => by simp [Go.Sort.grow, Array.getElem?_append_left hk]⟩
theorem keeps_ahead (w : World) (n : Nat) : Keeps (fun _ => False) w (Go.Sort.ahead w n) := ⟨rfl, rfl, rfl, Nat.le_refl _, fun _ _ _ => rfl⟩
theorem keeps_mapBlock (w : World) (g : Nat) (f : Array Value → Array Value) : Keeps (fun k => k = g) w (Go.Sort.mapBlock w g f) :=
  ⟨rfl, rfl, rfl, by simp [Go.Sort.mapBlock], fun k hk h => by simp [Go.Sort.mapBlock, Array.getElem?_modify, Ne.symm h]⟩
theorem heap_mapBlock {w : World} {g : Nat} {f : Array Value → Array Value} {c : Array Value} {e : TypeId} {fz : Nat × Nat} (h : w.heap[g]? = some (.cells c e fz)) : (Go.Sort.mapBlock w g f).heap[g]? = some (.cells (f c) e fz) := by
  simp [Go.Sort.mapBlock, Array.getElem?_modify, h, Go.Sort.onCells]

/-- A call that writes into one row of ints. -/
theorem acalls_row {P : Program} {f : FuncId} {fn : Func} {E : Ending} (hf : P.funcs[f]? = some fn) (h2 : (fn.name == "runtime.NumGoroutine") = false) (h3 : fn.body.isNone = false)
    {M : Nat → Option Obj} {L : List Atom} {g o n c : Nat} {xs ys : List Int} (hl : ys.length = xs.length)
    (hc : ∀ w : World, Go.Sort.Holds (Value.int .i64) w g o xs.toArray → g < w.heap.size → Calls P f #[.slice (some ⟨g, o, none⟩) xs.length c] w fun e w' => e = E ∧ ∃ q os, w' = Go.Sort.grow (Go.Sort.putRow (Value.int .i64) (Go.Sort.ahead w q) g o ys.toArray) os)
    {R : Ending → Hp → Prop} (hR : R E ⟨M, .row (.slice (some ⟨g, o, none⟩) n c) 3 1 (ints ys) :: L⟩) (hn : n = xs.length) :
    ACalls P f [.slice (some ⟨g, o, none⟩) xs.length c] ⟨M, .row (.slice (some ⟨g, o, none⟩) n c) 3 1 (ints xs) :: L⟩ R := by
  subst hn
  refine acalls_mk hf h2 h3 fun w0 F w hr => ?_
  have hrow := hr.holds (.row (.slice (some ⟨g, o, none⟩) xs.length c) 3 1 (ints xs)) (by simp)
  rcases hrow with ⟨h, _⟩ | ⟨g', o', n', c', cs, h, hh, hnc, hcm, hoc, hlen, hcell⟩
  · cases h
  cases h
  rw [ints_length] at hcell
  have hg : g < w.heap.size := (Array.getElem?_eq_some_iff.1 hh).1
  have hHolds : Go.Sort.Holds (Value.int .i64) w g o xs.toArray := fun j hj => by
    have hj' : j < xs.length := by simpa using hj
    have := hcell j hj'
    constructor
    · simp [World.cell?, hh, this, ints, hj']
    · simp [World.frozen?, hh]
  refine (hc w hHolds hg).mono fun e w' ⟨he, q, os, hw⟩ => ?_
  subst he
  refine ⟨_, ?_, hR⟩
  have k1 : Keeps (fun k => (Atom.row (.slice (some ⟨g, o, none⟩) xs.length c) 3 1 (ints xs)).foot = some k) w w' := by
    rw [hw]
    refine (((keeps_ahead w q).mono fun _ h => h.elim).trans (((keeps_mapBlock _ g _).mono fun k h => ?_).trans ((keeps_grow _ os).mono fun _ h => h.elim)))
    subst h; rfl
  have hheap : w'.heap[g]? = some (.cells (Go.Sort.putCells (Value.int .i64) o ys.toArray cs) 3 (0, 0)) := by
    rw [hw]
    have hh' : (Go.Sort.ahead w q).heap[g]? = some (.cells cs 3 (0, 0)) := hh
    have := heap_mapBlock (f := Go.Sort.putCells (Value.int .i64) o ys.toArray) hh'
    show (Go.Sort.grow (Go.Sort.mapBlock _ _ _) os).heap[g]? = _
    rw [← this]
    simp only [Go.Sort.grow]
    rw [Array.getElem?_append_left]
    simp [Go.Sort.mapBlock, Go.Sort.ahead, hg]
  have := Rep.replace (a' := .row (.slice (some ⟨g, o, none⟩) xs.length c) 3 1 (ints ys)) hr (i := 0) rfl k1 (.inr ⟨g, o, xs.length, c, _, rfl, hheap, hnc, hcm, by simpa [Go.Sort.putCells] using hoc, by rw [ints_length, hl, Nat.mul_one], fun i hi => ?_⟩) (fun k hk => .inl hk)
  · exact this
  · rw [ints_length] at hi
    have hi' : i < xs.length := by omega
    have hsz : o + i < cs.size := by omega
    simp only [Go.Sort.putCells, Array.getElem?_mapIdx]
    rw [Array.getElem?_eq_getElem hsz]
    simp only [Option.map_some]
    rw [if_pos ⟨by omega, by simp; omega⟩, Nat.add_sub_cancel_left]
    simp [ints, hi]

theorem ACalls.weakR {P : Program} {f : FuncId} {args : List Value} {H : Hp} {R : Ending → Hp → Prop} (h : ACalls P f args H fun e H' => ∃ H2, Weak H' H2 ∧ R e H2) : ACalls P f args H R := by
  obtain ⟨⟨fn, h1, h2, h3⟩, hc⟩ := acalls_ok h
  exact acalls_mk h1 h2 h3 fun w0 F w hr => (hc w0 F w hr).mono fun e w' ⟨H', hr', H2, hw, hR⟩ => ⟨H2, hw _ _ _ hr', hR⟩
def srt (l : List Int) : List Int := l.mergeSort fun x y => decide (x ≤ y)
theorem srt_length (l : List Int) : (srt l).length = l.length := List.length_mergeSort l
theorem c_Sort (v : Value) (l : List Int) (M : Nat → Option Obj) (L : List Atom) (hv : RowVal v 1 (ints l)) (hlen : l.length ≤ 1099511627776) (R : Ending → Hp → Prop)
    (hR : RowVal v 1 (ints (srt l)) → R (.returned (.tuple #[])) ⟨M, .row v 3 1 (ints (srt l)) :: L⟩) : ACalls Try.prog 28 [v] ⟨M, .row v 3 1 (ints l) :: L⟩ R := by
  rcases hv with ⟨rfl, h0⟩ | ⟨g, o, n, c, rfl, h1, h2, h3⟩
  · have hl : l = [] := List.length_eq_zero_iff.1 (by have := congrArg List.length h0; simpa [ints_length] using this)
    subst hl
    refine acalls_mk Try.func28 rfl rfl fun w0 F w hr => ?_
    refine (Try.slices_Sort_int_none none 0 w).mono fun e w' ⟨he, hw⟩ => ?_
    subst he hw
    have e0 : srt [] = [] := List.mergeSort_nil
    rw [e0] at hR
    exact ⟨_, hr, hR (.inl ⟨rfl, rfl⟩)⟩
  · rw [ints_length, Nat.mul_one] at h1
    subst h1
    refine acalls_row Try.func28 rfl rfl (xs := l) (ys := srt l) (srt_length l) (fun w hH hg => Try.slices_Sort_int g o c l w hH hg (by omega)) (hR (.inr ⟨g, o, _, c, rfl, by rw [ints_length, srt_length, Nat.mul_one], h2, h3⟩)) rfl

/-- Fewer cells of a row. -/
theorem weakPrefix {M : Nat → Option Obj} {L : List Atom} {g o n c k : Nat} {e : TypeId} {xs : List Value} (hk : k ≤ n) : Weak ⟨M, .row (.slice (some ⟨g, o, none⟩) n c) e 1 xs :: L⟩ ⟨M, .row (.slice (some ⟨g, o, none⟩) k c) e 1 (xs.take k) :: L⟩ := by
  intro w0 F w hr
  have hrow := hr.holds (.row (.slice (some ⟨g, o, none⟩) n c) e 1 xs) (by simp)
  rcases hrow with ⟨h, _⟩ | ⟨g', o', n', c', cs, h, hh, hnc, hcm, hoc, hlen, hcell⟩
  · cases h
  cases h
  have := Rep.replace (a' := .row (.slice (some ⟨g, o, none⟩) k c) e 1 (xs.take k)) hr (i := 0) (w' := w) rfl (Keeps.refl _ w) (.inr ⟨g, o, k, c, cs, rfl, hh, by omega, hcm, hoc, by rw [List.length_take]; omega, fun i hi => ?_⟩) (fun k hk => .inl hk)
  · exact this
  · rw [List.length_take] at hi
    rw [hcell i (by omega), List.getElem?_take, if_pos (by omega)]
end Go.Proofs.Ytohdcmkooedkcaa.A
