/- Books: Spent, Owed, Remove, Copy. -/
import Derived.Test.YtpblnfldhicfgaaB9
namespace Go.Proofs.Ytpblnfldhicfgaa.A
open Go Go.RowKit
set_option linter.unusedVariables false
set_option linter.unusedSimpArgs false
set_option maxRecDepth 4000

structure okB (B : Bk) : Prop where
  l1 : B.sp.length = B.lim.length
  l2 : B.own.length = B.lim.length
  l3 : B.rem.length = B.lim.length
  l4 : B.owed.length = B.most.length
  n1 : B.lim.length ≤ 256
  n2 : B.most.length ≤ 16
  lim : ∀ x ∈ B.lim, okF x
  sp : ∀ x ∈ B.sp, okF x
  own : ∀ x ∈ B.own, 0 ≤ x ∧ x < B.most.length
  most : ∀ x ∈ B.most, okF x
  owed : ∀ x ∈ B.owed, okF x
structure BkAt (H : Hp) (g : Nat) (a b c d : Value) (B : Bk) : Prop where
  h : CellsAt H g 0 [a, b, c, d]
  a : Reads H a 4 (accs B.lim B.sp)
  b : Reads H b 4 (accs B.most B.owed)
  c : Reads H c 1 (ints B.own)
  d : Reads H d 1 (bools B.rem)
theorem bkAt {M : Nat → Option Obj} {L : List Atom} {g : Nat} {a b c d : Value} {B : Bk} (h : BkV a b c d B) : BkAt ⟨M, bkA g a b c d B ++ L⟩ g a b c d B where
  h j v hj := .inr ⟨_, List.mem_append_left _ List.mem_cons_self, rfl, by simpa using hj⟩
  a := readsRow (e := 84) (List.mem_append_left _ (by simp [bkA])) h.a
  b := readsRow (e := 84) (List.mem_append_left _ (by simp [bkA])) h.b
  c := readsRow (e := 3) (List.mem_append_left _ (by simp [bkA])) h.c
  d := readsRow (e := 4) (List.mem_append_left _ (by simp [bkA])) h.d
theorem CellsAt.mono {H H' : Hp} {g o : Nat} {vs : List Value} (h : CellsAt H g o vs) (hl : HLe H H') : CellsAt H' g o vs := fun j v hj => hl _ _ _ (h j v hj)
theorem BkAt.mono {H H' : Hp} {g : Nat} {a b c d : Value} {B : Bk} (h : BkAt H g a b c d B) (hl : HLe H H') : BkAt H' g a b c d B :=
  ⟨h.h.mono hl, h.a.mono hl, h.b.mono hl, h.c.mono hl, h.d.mono hl⟩

theorem accs_cells {l m : List Fr} {k : Nat} (h : m.length = l.length) (hk : k < l.length) : ((accs l m).drop (k * 4)).take 4 = (getf l k).cs ++ (getf m k).cs := by
  induction l generalizing m k with
  | nil => simp at hk
  | cons a l ih =>
    cases m with
    | nil => simp at h
    | cons b m =>
      cases k with
      | zero => simp [accs, Fr.cs, getf]
      | succ k =>
        have := ih (m := m) (k := k) (by simpa using h) (by simpa using hk)
        rw [show (k + 1) * 4 = 4 + k * 4 by omega, ← List.drop_drop]
        simp only [accs, List.zip_cons_cons, List.flatMap_cons, Fr.cs, List.cons_append, List.nil_append, List.drop_succ_cons, List.drop_zero, getf] at *
        simpa using this
/-- One account of a row of them. -/
theorem accsAt {H : Hp} {v : Value} {l m : List Fr} (h : m.length = l.length) (hr : Reads H v 4 (accs l m)) : ∃ p c, v = .slice p l.length c ∧
    ∀ i : Int, 0 ≤ i → i < l.length → ∃ g o, p = some ⟨g, o, none⟩ ∧ CellsAt H g (o + i.toNat * 4) (getf l i).cs ∧ CellsAt H g (o + i.toNat * 4 + 2) (getf m i).cs := by
  obtain ⟨p, n, c, rfl, hnc, hl, hc⟩ := hr
  rw [accs_length h] at hl
  have hn : n = l.length := by omega
  subst hn
  refine ⟨p, c, rfl, fun i h0 h1 => ?_⟩
  obtain ⟨g, o, rfl, hcells⟩ := hc (by omega)
  obtain ⟨k, rfl⟩ : ∃ k : Nat, i = k := ⟨i.toNat, by omega⟩
  have hk : k < l.length := by omega
  have := accs_cells h hk
  have key : ∀ j v, ((getf l k).cs ++ (getf m k).cs)[j]? = some v → H.cell g (o + k * 4 + j) v := fun j v hj => by
    rw [← this, List.getElem?_take] at hj
    split at hj
    · rw [List.getElem?_drop] at hj
      rw [Nat.add_assoc]; exact hcells _ _ hj
    · cases hj
  refine ⟨g, o, rfl, fun j v hj => ?_, fun j v hj => ?_⟩
  · refine key j v ?_
    rw [List.getElem?_append_left (List.getElem?_eq_some_iff.1 hj).1]; exact hj
  · rw [Nat.add_assoc]
    refine key (2 + j) v ?_
    rw [List.getElem?_append_right (by simp [Fr.cs])]
    simpa [Fr.cs] using hj

def usedF (l : List Fr) (i : Int) : Fr × Int := if i < 0 ∨ i ≥ l.length then (⟨0, 0⟩, 6) else (getf l i, 0)
theorem c_used (v : Value) (l m : List Fr) (i : Int) (H : Hp) (h : m.length = l.length) (hr : Reads H v 4 (accs l m)) (R : Ending → Hp → Prop) (hR : R (.returned (.tuple #[(usedF m i).1.v, .int .i64 (usedF m i).2])) H) :
    ACalls Try.prog 42 [v, .int .i64 i] H R := by
  obtain ⟨p, c, rfl, hc⟩ := accsAt h hr
  unfold usedF at hR
  refine acalls_code hT Try.func42 rfl rfl ?_
  conv => whnf
  intro r
  conv => whnf
  refine ifC_dec (fun c1 => ?_) (fun c1 => ?_)
  · conv => whnf
    refine stC 0 rfl rfl (by first | (refine ⟨rfl, ?_⟩; repeat' (first | exact trivial | refine ⟨rfl, ?_⟩)) | simp [oneCells, Value.oneCell', setN]) ?_
    conv => whnf
    refine ⟨rfl, ?_⟩
    conv => whnf
    refine ldA 0 rfl rfl ?_
    conv => whnf
    rw [if_pos (by omega)] at hR
    exact fin (weakK 1 rfl) hR
  · conv => whnf
    refine ifC_dec (fun c2 => ?_) (fun c2 => ?_)
    · conv => whnf
      refine stC 0 rfl rfl (by first | (refine ⟨rfl, ?_⟩; repeat' (first | exact trivial | refine ⟨rfl, ?_⟩)) | simp [oneCells, Value.oneCell', setN]) ?_
      conv => whnf
      refine ⟨rfl, ?_⟩
      conv => whnf
      refine ldA 0 rfl rfl ?_
      conv => whnf
      rw [if_pos (by omega)] at hR
      exact fin (weakK 1 rfl) hR
    · conv => whnf
      obtain ⟨g, o, rfl, h1, h2⟩ := hc i (by omega) (by omega)
      refine ⟨g, o, rfl, by omega, ?_⟩
      conv => whnf
      refine ⟨_, rfl, h2.mono (HLe.cons H _), ?_⟩
      conv => whnf
      refine stC 0 rfl rfl (by first | (refine ⟨rfl, ?_⟩; repeat' (first | exact trivial | refine ⟨rfl, ?_⟩)) | simp [oneCells, Value.oneCell', setN]) ?_
      conv => whnf
      refine ⟨rfl, ?_⟩
      conv => whnf
      refine ldA 0 rfl rfl ?_
      conv => whnf
      rw [if_neg (by omega)] at hR
      exact fin (weakK 1 rfl) hR

theorem c_Spent (g : Nat) (a b c d : Value) (B : Bk) (i : Int) (H : Hp) (hB : okB B) (hb : BkAt H g a b c d B) (R : Ending → Hp → Prop) (hR : R (.returned (.tuple #[(usedF B.sp i).1.v, .int .i64 (usedF B.sp i).2])) H) :
    ACalls Try.prog 20 [ptr g, .int .i64 i] H R := by
  refine acalls_code hT Try.func20 rfl rfl ?_
  conv => whnf
  intro r
  conv => whnf
  have hb' := hb.mono (HLe.cons H (.cells r 24 [.int .i64 0, .int .i64 0]))
  refine ⟨_, hb'.h 0 _ rfl, ?_⟩
  conv => whnf
  refine c_used a _ _ i _ hB.l1 hb'.a _ ?_
  conv => whnf
  refine stC 0 rfl rfl (by first | (refine ⟨rfl, ?_⟩; repeat' (first | exact trivial | refine ⟨rfl, ?_⟩)) | simp [oneCells, Value.oneCell', setN]) ?_
  conv => whnf
  refine ⟨rfl, ?_⟩
  conv => whnf
  refine ldA 0 rfl rfl ?_
  conv => whnf
  exact fin (weakK 1 rfl) hR
theorem c_Owed (g : Nat) (a b c d : Value) (B : Bk) (i : Int) (H : Hp) (hB : okB B) (hb : BkAt H g a b c d B) (R : Ending → Hp → Prop) (hR : R (.returned (.tuple #[(usedF B.owed i).1.v, .int .i64 (usedF B.owed i).2])) H) :
    ACalls Try.prog 21 [ptr g, .int .i64 i] H R := by
  refine acalls_code hT Try.func21 rfl rfl ?_
  conv => whnf
  intro r
  conv => whnf
  have hb' := hb.mono (HLe.cons H (.cells r 24 [.int .i64 0, .int .i64 0]))
  refine ⟨_, hb'.h 1 _ rfl, ?_⟩
  conv => whnf
  refine c_used b _ _ i _ hB.l4 hb'.b _ ?_
  conv => whnf
  refine stC 0 rfl rfl (by first | (refine ⟨rfl, ?_⟩; repeat' (first | exact trivial | refine ⟨rfl, ?_⟩)) | simp [oneCells, Value.oneCell', setN]) ?_
  conv => whnf
  refine ⟨rfl, ?_⟩
  conv => whnf
  refine ldA 0 rfl rfl ?_
  conv => whnf
  exact fin (weakK 1 rfl) hR
end Go.Proofs.Ytpblnfldhicfgaa.A
