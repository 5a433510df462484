/- The book's contracts in one form: Remove, Renew, Depends, New. -/
import Derived.Test.YtjgljgkfflojbaaD7
namespace Go.Proofs.Ytjgljgkfflojbaa.A
open Go Go.RowKit
set_option linter.unusedVariables false
set_option linter.unusedSimpArgs false
set_option maxRecDepth 20000

section
variable {g : Nat} {S : St} {M : Nat → Option Obj} {L0 : List Atom} {H : Hp} {R : Ending → Hp → Prop}
theorem p_New (hR : ∀ g H', Bo g ⟨[], []⟩ H.M H.L H' → R (.returned (ptr g)) H') : ACalls Try.prog 8 [] H R :=
  c_New26 H R fun g r => hR g _ ⟨.slice none 0 0, r, [], [], rfl, .inl ⟨rfl, rfl⟩, by simp, Weak.refl _⟩
/-- A nil row of ints is added. -/
theorem Bo.nil (h : Bo g S M L0 H) : Bo g S M (.row (.slice none 0 0) 3 1 (ints []) :: L0) H := (h.add _).weak (weakNil H 3 1)
theorem p_Remove (hb : Bo g S M L0 H) (hok : okS S) {x : Int}
    (hR : ∀ H' s, RowVal s 1 (ints (rmS S x).2.1) → Bo g (rmS S x).1 M (.row s 3 1 (ints (rmS S x).2.1) :: L0) H' → R (.returned (.tuple #[s, .int .i64 (rmS S x).2.2])) H') : ACalls Try.prog 24 [ptr g, .int .i64 x] H R := by
  obtain ⟨tv, r, ts, N, hS, h2, h3, h4⟩ := hb
  rw [hS] at hok hR
  have ho := hok.ts
  refine ACalls.weak h4 (c_Remove26 g tv r ts S.gone x M _ h2 h3 ho.1 _ (fun he => ?_) (fun he s hs ht => ?_))
  · have e1 : (rmS (stOf ts S.gone) x).1 = stOf ts S.gone ∧ (rmS (stOf ts S.gone) x).2.1 = [] := by
      unfold rmS at *
      split
      · exact ⟨rfl, rfl⟩
      · rename_i c1
        rw [if_neg c1] at he
        split
        · exact ⟨rfl, rfl⟩
        · rename_i c2
          rw [if_neg c2] at he
          exact absurd rfl he
    have := hR ⟨M, cbA g tv r ts S.gone ++ (N ++ L0)⟩ (.slice none 0 0)
    rw [e1.1, e1.2] at this
    exact this (.inl ⟨rfl, rfl⟩) (Bo.nil ⟨tv, r, ts, N, rfl, h2, h3, Weak.refl _⟩)
  · have e1 : (rmS (stOf ts S.gone) x).1 = stOf (ts.map (rmV x)) (S.gone ++ [x]) ∧ (rmS (stOf ts S.gone) x).2.1 = rmL (stOf ts S.gone) x := by
      unfold rmS at *
      split
      · rename_i c; rw [if_pos c] at he; simp at he
      · rename_i c1
        rw [if_neg c1] at he
        split
        · rename_i c; rw [if_pos c] at he; simp at he
        · refine ⟨?_, rfl⟩
          simp only [stOf, List.map_map]
          rfl
    have := hR ⟨M, cbA g tv r (ts.map (rmV x)) (S.gone ++ [x]) ++ (.row s 3 1 (ints (rmL (stOf ts S.gone) x)) :: (N ++ L0))⟩ s
    rw [e1.1, e1.2, he] at this
    refine this hs ⟨tv, r, ts.map (rmV x), N, rfl, ht, fun y hy => ?_, Weak.perm (List.Perm.append_left _ List.perm_middle.symm)⟩
    obtain ⟨z, hz, rfl⟩ := List.mem_map.1 hy
    have hz := (h3 z hz).mono (hle_sub (L' := N ++ .row s 3 1 (ints (rmL (stOf ts S.gone) x)) :: L0) fun a ha => by
      rcases List.mem_append.1 ha with ha | ha
      · exact List.mem_append_left _ ha
      · exact List.mem_append_right _ (List.mem_cons_of_mem _ ha))
    unfold rmV rmT
    split <;> exact ⟨hz.f, hz.p, hz.b⟩
theorem p_Renew (hb : Bo g S M L0 H) (hok : okS S) {i : Int}
    (hR : ∀ H', Bo g (rnS S i).1 M L0 H' → R (.returned (.int .i64 (rnS S i).2)) H') : ACalls Try.prog 19 [ptr g, .int .i64 i] H R := by
  obtain ⟨tv, r, ts, N, hS, h2, h3, h4⟩ := hb
  rw [hS] at hok hR
  have ho := hok.ts
  refine ACalls.weak h4 (c_Renew g tv r ts S.gone i M _ h2 h3 ho.1 ho.2 _ (fun he => ?_) (fun he k hk x hi hx hfv hpv hbv ht => ?_))
  · have e1 : (rnS (stOf ts S.gone) i).1 = stOf ts S.gone := by
      unfold rnS at *
      split
      · rfl
      · rename_i c1
        rw [if_neg c1] at he
        split
        · rfl
        · rename_i c2
          rw [if_neg c2] at he
          split
          · rfl
          · rename_i c3
            rw [if_neg c3] at he
            exact absurd rfl he
    have := hR ⟨M, cbA g tv r ts S.gone ++ (N ++ L0)⟩
    rw [e1] at this
    exact this ⟨tv, r, ts, N, rfl, h2, h3, Weak.refl _⟩
  · subst hi
    have e1 : (rnS (stOf ts S.gone) k).1 = stOf (ts.set k x) S.gone := by
      unfold rnS at *
      split
      · rename_i c; rw [if_pos c] at he; simp at he
      · rename_i c1
        rw [if_neg c1] at he
        split
        · rename_i c; rw [if_pos c] at he; simp at he
        · rename_i c2
          rw [if_neg c2] at he
          split
          · rename_i c; rw [if_pos c] at he; simp at he
          · simp only [stOf, List.map_set, hx]
            rw [show ((k : Int)).toNat = k from rfl]
            congr 2
            exact congrArg (rnT _) (th_at hk)
    have := hR ⟨M, cbA g tv r (ts.set k x) S.gone ++ (.row x.pv 3 1 (ints x.t.p) :: .row x.bv 3 1 (ints x.t.b) :: (N ++ L0))⟩
    rw [e1, he] at this
    refine this ⟨tv, r, ts.set k x, .row x.pv 3 1 (ints x.t.p) :: .row x.bv 3 1 (ints x.t.b) :: N, rfl, ht, fun y hy => ?_, Weak.refl _⟩
    have hsub : HLe ⟨M, N ++ L0⟩ ⟨M, (.row x.pv 3 1 (ints x.t.p) :: .row x.bv 3 1 (ints x.t.b) :: N) ++ L0⟩ := hle_pre [_, _] (N ++ L0)
    rcases List.mem_or_eq_of_mem_set hy with hy | hy
    · exact (h3 y hy).mono hsub
    · subst hy
      have := (h3 _ (List.getElem_mem hk)).mono hsub
      refine ⟨?_, readsRow (e := 3) (by simp) hpv, readsRow (e := 3) (by simp) hbv⟩
      have e : y.t.f = ts[k].t.f := by rw [hx]; rfl
      rw [hfv, e]
      exact this.f
theorem p_Depends (hb : Bo g S M L0 H) (hok : okS S) {i : Int}
    (h0 : ¬ (0 ≤ i ∧ i < S.ts.length) → ∀ H', Bo g S M L0 H' → R (.returned (.tuple #[.slice none 0 0, .bool false, .int .i64 6])) H')
    (h1 : 0 ≤ i ∧ i < S.ts.length → ∀ H' v', RowVal v' 1 (ints (S.th i).b) → Bo g S M (.row v' 3 1 (ints (S.th i).b) :: L0) H' → R (.returned (.tuple #[v', .bool (S.th i).u, .int .i64 0])) H') :
    ACalls Try.prog 15 [ptr g, .int .i64 i] H R := by
  obtain ⟨tv, r, ts, N, hS, h2, h3, h4⟩ := hb
  rw [hS] at hok h0 h1
  have ho := hok.ts
  have hsn : (stOf ts S.gone).ts.length = ts.length := by simp [stOf]
  rw [hsn] at h0 h1
  have hB : Bo g (stOf ts S.gone) M L0 ⟨M, cbA g tv r ts S.gone ++ (N ++ L0)⟩ := ⟨tv, r, ts, N, rfl, h2, h3, Weak.refl _⟩
  refine ACalls.weak h4 (c_Depends g tv r ts S.gone i _ (cbIn h2 (fun x hx => (h3 x hx).mono (hle_pre _ _)) fun a ha => List.mem_append_left _ ha) ho.1 _ (fun hi => h0 hi _ hB) (fun hi v' hv' => h1 hi _ v' hv' (hB.add _)))
end
end Go.Proofs.Ytjgljgkfflojbaa.A
