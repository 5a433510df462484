/- What acts keep; BudgetKept. -/
import Derived.Test.YtpblnfldhicfgaaC3
import Derived.Test.YtpblnfldhicfgaaC5
namespace Go.Proofs.Ytpblnfldhicfgaa.A
open Go Go.RowKit
set_option linter.unusedVariables false
set_option linter.unusedSimpArgs false
set_option maxRecDepth 20000

theorem bkIn {M : Nat → Option Obj} {L : List Atom} {g : Nat} {a b c d : Value} {B : Bk} (h : BkV a b c d B) (hL : ∀ x ∈ bkA g a b c d B, x ∈ L) : BkAt ⟨M, L⟩ g a b c d B :=
  (bkAt (L := []) h).mono (hle_sub fun x hx => hL x (by simpa using hx))
theorem rbIn {M : Nat → Option Obj} {L : List Atom} {g : Nat} {a b c d e f : Value} {B : Bk} (h : RbV a b c d e f B) (hL : ∀ x ∈ rbA g a b c d e f B, x ∈ L) : RbAt ⟨M, L⟩ g a b c d e f B :=
  (rbAt (L := []) h).mono (hle_sub fun x hx => hL x (by simpa using hx))
/-- A fraction in a row of them. -/
theorem frCell {H : Hp} {g n : Nat} {e : TypeId} {l : List Fr} (hm : Atom.row (.slice (some ⟨g, 0, none⟩) n n) e 2 (frs l) ∈ H.L) {k : Nat} (hk : k < l.length) : CellsAt H g (0 + (k : Int).toNat * 2) (getf l k).cs := fun j v hj => by
  have := frs_cells hk
  refine .inr ⟨_, hm, rfl, Nat.zero_le _, ?_⟩
  show (frs l)[0 + (k : Int).toNat * 2 + j - 0]? = some v
  rw [Nat.sub_zero, Nat.zero_add, Int.toNat_natCast]
  match j, hj with
  | 0, hj => simp [Fr.cs] at hj; rw [← hj]; exact this.1
  | 1, hj => simp [Fr.cs] at hj; rw [← hj]; exact this.2
  | j + 2, hj => simp [Fr.cs] at hj
structure Kept (B : Bk) : Prop where
  sp : ∀ k : Int, 0 ≤ k → k < B.lim.length → (getf B.sp k).q ≤ (getf B.lim k).q
  owed : ∀ k : Nat, k < B.most.length → (getf B.owed k).q ≤ (getf B.most k).q
/-- No less than before. -/
structure Grown (B B' : Bk) : Prop where
  lim : B'.lim = B.lim
  own : B'.own = B.own
  most : B'.most = B.most
  sp : ∀ k : Int, 0 ≤ k → k < B.lim.length → (getf B.sp k).q ≤ (getf B'.sp k).q
  owed : ∀ k : Nat, k < B.most.length → (getf B.owed k).q ≤ (getf B'.owed k).q
theorem Grown.refl (B : Bk) : Grown B B := ⟨rfl, rfl, rfl, fun _ _ _ => Rat.le_refl, fun _ _ => Rat.le_refl⟩
theorem okB.spk {B : Bk} (h : okB B) {k : Int} (h0 : 0 ≤ k) (h1 : k < B.lim.length) : okF (getf B.sp k) := h.sp _ (getf_mem h0 (by rw [h.l1]; exact h1))
theorem okB.limk {B : Bk} (h : okB B) {k : Int} (h0 : 0 ≤ k) (h1 : k < B.lim.length) : okF (getf B.lim k) := h.lim _ (getf_mem h0 h1)
theorem okB.owedk {B : Bk} (h : okB B) {k : Nat} (h1 : k < B.most.length) : okF (getf B.owed k) := h.owed _ (getf_mem (by omega) (by rw [h.l4]; omega))
theorem okB.mostk {B : Bk} (h : okB B) {k : Nat} (h1 : k < B.most.length) : okF (getf B.most k) := h.most _ (getf_mem (by omega) (by omega))
theorem ptF_okF (B : Bk) (l : List Int) (c : Fr) (o : Nat) : okF (ptF B l c o).1 := mulF_okF _ _
theorem ptF_nn {B : Bk} {l : List Int} {c : Fr} {o : Nat} (hc : okC c) (h : (ptF B l c o).2 = 0) : 0 ≤ (ptF B l c o).1.q := by
  unfold ptF at *
  rw [mulF_q hc.1 (mkF_ok _ _) h]
  exact Rat.mul_nonneg (q_nn hc.2) (q_nn (mkF_nn (by omega) (by omega)))
theorem ask_kept {B : Bk} {l : List Int} {c : Fr} (hB : okB B) : (Kept B → Kept (askB B l c).1) ∧ Grown B (askB B l c).1 := by
  by_cases h : (askB B l c).2 = 0
  · have hok := (ask_iff hB).1 h
    have hd := ask_did hB h
    have hc := q_nn hok.ok.2
    refine ⟨fun hk => ⟨fun k h0 h1 => ?_, fun k h1 => ?_⟩, hd.lim, hd.own, hd.most, fun k h0 h1 => ?_, fun k h1 => ?_⟩
    · rw [hd.lim] at *
      rw [hd.sp k h0]
      split
      · rename_i hm
        have := (hok.add k hm).2
        rw [cmpF_pos (addF_okF _ _) (hB.limk h0 h1)] at this
        exact Rat.not_lt.1 this
      · exact hk.sp k h0 h1
    · rw [hd.most] at *
      rw [hd.owed k h1]
      split
      · rename_i hm
        have := (hok.owe k h1 hm).2.2
        rw [cmpF_pos (addF_okF _ _) (hB.mostk h1)] at this
        exact Rat.not_lt.1 this
      · exact hk.owed k h1
    · rw [hd.sp k h0]
      split
      · rename_i hm
        rw [addF_q (hB.spk h0 h1) hok.ok.1 (hok.add k hm).1]
        grind
      · exact Rat.le_refl
    · rw [hd.owed k h1]
      split
      · rename_i hm
        have ho := hok.owe k h1 hm
        rw [addF_q (hB.owedk h1) (ptF_okF _ _ _ _) ho.2.1]
        have := ptF_nn hok.ok ho.1
        grind
      · exact Rat.le_refl
  · have hno := ask_no hB (fun h' => h ((ask_iff hB).2 h'))
    rw [hno.1]
    exact ⟨id, Grown.refl B⟩
theorem rem_kept {B : Bk} (i : Int) : (Kept B → Kept (remB B i).1) ∧ Grown B (remB B i).1 := by
  unfold remB
  split
  · exact ⟨id, Grown.refl B⟩
  · split
    · exact ⟨id, Grown.refl B⟩
    · exact ⟨fun h => ⟨h.sp, h.owed⟩, rfl, rfl, rfl, fun _ _ _ => Rat.le_refl, fun _ _ => Rat.le_refl⟩
theorem act_kept {B : Bk} {x : Ac} (hB : okB B) : (Kept B → Kept (actB B x).1) ∧ Grown B (actB B x).1 := by
  unfold actB; split
  · exact rem_kept _
  · exact ask_kept hB
theorem getf_rep (n : Nat) (k : Int) : getf (List.replicate n ⟨0, 0⟩) k = ⟨0, 0⟩ := by
  simp only [getf, List.getD_eq_getElem?_getD, List.getElem?_replicate]
  split <;> rfl
theorem getf_nn {l : List Fr} (h : ∀ x ∈ l, okC x) (k : Int) : 0 ≤ (getf l k).q := by
  simp only [getf, List.getD_eq_getElem?_getD]
  cases h' : l[k.toNat]? with
  | none => rw [Option.getD_none, q_zero]; exact Rat.le_refl
  | some x => exact q_nn (h x (List.mem_of_getElem? h')).2
theorem beg_kept (l : List Int) : Kept (begB l) := by
  refine ⟨fun k h0 h1 => ?_, fun k h1 => ?_⟩
  · show (getf (List.replicate (bgP l).length ⟨0, 0⟩) k).q ≤ (getf (bgP l) k).q
    rw [getf_rep, q_zero]; exact getf_nn (costL_okC _ _ _ _) k
  · show (getf (List.replicate (bgQ l).length ⟨0, 0⟩) k).q ≤ (getf (bgQ l) k).q
    rw [getf_rep, q_zero]; exact getf_nn (costL_okC _ _ _ _) k

/-- What is spent and owed. -/
def cur (B : Bk) (k : Nat) : Fr := if k < B.lim.length then getf B.sp k else getf B.owed ((k : Int) - B.lim.length)
structure LastOk (B : Bk) (Ls : List Fr) : Prop where
  len : Ls.length = B.lim.length + B.most.length
  ok : ∀ x ∈ Ls, okF x
  le : ∀ k : Nat, k < B.lim.length + B.most.length → (getf Ls k).q ≤ (cur B k).q
theorem LastOk.grow {B B' : Bk} {Ls : List Fr} (h : LastOk B Ls) (hg : Grown B B') : LastOk B' Ls := by
  refine ⟨by rw [hg.lim, hg.most]; exact h.len, h.ok, fun k hk => ?_⟩
  rw [hg.lim, hg.most] at hk
  refine Rat.le_trans (h.le k hk) ?_
  unfold cur
  rw [hg.lim]
  split
  · exact hg.sp k (by omega) (by omega)
  · have : ((k : Int) - B.lim.length) = ((k - B.lim.length : Nat) : Int) := by omega
    rw [this]
    exact hg.owed _ (by omega)
theorem LastOk.set {B : Bk} {Ls : List Fr} (h : LastOk B Ls) {k : Nat} (hk : k < B.lim.length + B.most.length) (hok : okF (cur B k)) : LastOk B (Ls.set k (cur B k)) := by
  refine ⟨by rw [List.length_set]; exact h.len, okF_set h.ok hok, fun j hj => ?_⟩
  by_cases hjk : k = j
  · subst hjk
    rw [getf_set_eq (by rw [h.len]; exact hk)]; exact Rat.le_refl
  · rw [getf_set_ne hjk]; exact h.le j hj
theorem LastOk.zero (l : List Int) : LastOk (begB l) (List.replicate ((begB l).lim.length + (begB l).most.length) ⟨0, 0⟩) := by
  refine ⟨by simp, fun x hx => by rw [List.eq_of_mem_replicate hx]; exact .inl ⟨rfl, rfl⟩, fun k hk => ?_⟩
  unfold cur
  have e1 : (begB l).sp = List.replicate (bgP l).length ⟨0, 0⟩ := rfl
  have e2 : (begB l).owed = List.replicate (bgQ l).length ⟨0, 0⟩ := rfl
  rw [getf_rep, e1, e2, getf_rep, getf_rep]
  split <;> exact Rat.le_refl
end Go.Proofs.Ytpblnfldhicfgaa.A
