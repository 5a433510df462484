/- What the acts keep; the book's contracts in one form. -/
import Derived.Test.YtjgljgkfflojbaaD6
namespace Go.Proofs.Ytjgljgkfflojbaa.A
open Go Go.RowKit
set_option linter.unusedVariables false
set_option linter.unusedSimpArgs false
set_option maxRecDepth 20000

theorem riseF_mono {n m : Int} {l : List Int} (h : riseF (-1) n l = true) (hn : n ≤ m) : riseF (-1) m l = true := by
  obtain ⟨h1, h2⟩ := riseF_iff.1 h
  exact riseF_iff.2 ⟨h1, fun x hx => by have := h2 x hx; omega⟩
theorem St.th_some {S : St} {i : Int} (h0 : 0 ≤ i) (h1 : i < S.ts.length) : S.ts[i.toNat]? = some (S.th i) := by
  have : i.toNat < S.ts.length := by omega
  simp [St.th, List.getD_eq_getElem?_getD, this]
theorem okS.bb {S : St} (h : okS S) {i : Int} (h0 : 0 ≤ i) (h1 : i < S.ts.length) : ∀ x ∈ (S.th i).b, 0 ≤ x ∧ x < 65536 := (h.th _ _ (St.th_some h0 h1)).bb
theorem base_bb {S : St} (h : okS S) {f p : List Int} (hf : riseF (-1) S.ts.length f = true) (hp : riseF (-1) 65536 p = true) : ∀ x ∈ norm (baseL S f p), 0 ≤ x ∧ x < 65536 := fun x hx => by
  have hx := ((norm_inc _).2 x).1 hx
  unfold baseL at hx
  rcases List.mem_append.1 hx with hx | hx
  · have := (riseF_iff.1 hp).2 x hx; omega
  · obtain ⟨i, hi, hx⟩ := List.mem_flatMap.1 hx
    have := (riseF_iff.1 hf).2 i hi
    exact h.bb (by omega) (by omega) x hx
theorem okS.mk' {S : St} (h : okS S) (f p : List Int) : okS (mkS S f p).1 := by
  unfold mkS
  split
  · exact h
  · rename_i c1
    split
    · exact h
    · rename_i c2
      split
      · exact h
      · split
        · exact h
        · have hf : riseF (-1) S.ts.length f = true := by cases hh : riseF (-1) S.ts.length f <;> simp_all
          have hp : riseF (-1) 65536 p = true := by cases hh : riseF (-1) 65536 p <;> simp_all
          refine ⟨by simp; omega, fun i t ht => ?_, h.gone, h.nd⟩
          rcases Nat.lt_or_ge i S.ts.length with hi | hi
          · rw [List.getElem?_append_left hi] at ht
            exact h.th i t ht
          · rw [List.getElem?_append_right hi] at ht
            have hi0 : i - S.ts.length = 0 := by
              rcases Nat.eq_zero_or_pos (i - S.ts.length) with e | e
              · exact e
              · rw [List.getElem?_eq_none (by simp; omega)] at ht; cases ht
            rw [hi0] at ht
            simp at ht
            subst ht
            have : i = S.ts.length := by omega
            subst this
            exact ⟨hf, hp, by show p.length ≤ 512; omega, (norm_inc _).1, base_bb h hf hp⟩
theorem okS.rm' {S : St} (h : okS S) (x : Int) : okS (rmS S x).1 := by
  unfold rmS
  split
  · exact h
  · split
    · exact h
    · rename_i c1 c2
      refine ⟨by simpa using h.n, fun i t ht => ?_, fun y hy => ?_, ?_⟩
      · simp only [List.getElem?_map, Option.map_eq_some_iff] at ht
        obtain ⟨t0, ht0, rfl⟩ := ht
        have := h.th i t0 ht0
        unfold rmT; split <;> exact ⟨this.f, this.p, this.pl, this.b, this.bb⟩
      · rcases List.mem_append.1 hy with hy | hy
        · exact h.gone y hy
        · rw [List.mem_singleton.1 hy]; omega
      · exact List.nodup_append.2 ⟨h.nd, by simp, fun a ha b hb => by rw [List.mem_singleton.1 hb]; exact fun e => c2 (e ▸ ha)⟩
theorem filter_rise {n : Int} {l : List Int} (P : Int → Bool) (h : riseF (-1) n l = true) : riseF (-1) n (l.filter P) = true := by
  obtain ⟨h1, h2⟩ := riseF_iff.1 h
  exact riseF_iff.2 ⟨h1.filter _, fun x hx => h2 x (List.mem_filter.1 hx).1⟩
theorem okS.rn' {S : St} (h : okS S) (i : Int) : okS (rnS S i).1 := by
  unfold rnS
  split
  · exact h
  · rename_i c1
    split
    · exact h
    · split
      · exact h
      · have hs := St.th_some (S := S) (i := i) (by omega) (by omega)
        have ht := h.th _ _ hs
        refine ⟨by simpa using h.n, fun j t hj => ?_, h.gone, h.nd⟩
        by_cases hij : i.toNat = j
        · subst hij
          rw [List.getElem?_set_self (by omega)] at hj
          cases hj
          exact ⟨ht.f, filter_rise _ ht.p, Nat.le_trans (List.length_filter_le _ _) ht.pl, (norm_inc _).1, base_bb h (riseF_mono ht.f (by omega)) (filter_rise _ ht.p)⟩
        · rw [List.getElem?_set_ne hij] at hj
          exact h.th j t hj

theorem okS.ts {ts : List TV} {gone : List Int} (h : okS (stOf ts gone)) : okTs ts ∧ okT2 ts := by
  have hth : ∀ x ∈ ts, ∃ i, i < ts.length ∧ okTh i x.t := fun x hx => by
    obtain ⟨i, hi, rfl⟩ := List.getElem_of_mem hx
    exact ⟨i, hi, h.th i _ (by simp [stOf, hi])⟩
  refine ⟨⟨by simpa [stOf] using h.n, fun x hx => ?_, fun x hx => ?_⟩, ⟨fun x hx => ?_, fun x hx => ?_, fun x hx => ?_⟩⟩
  · obtain ⟨i, hi, ht⟩ := hth x hx
    exact inc_len ht.b ht.bb
  · obtain ⟨i, hi, ht⟩ := hth x hx
    exact ht.bb
  · obtain ⟨i, hi, ht⟩ := hth x hx
    exact riseF_mono ht.f (by omega)
  · obtain ⟨i, hi, ht⟩ := hth x hx
    exact ht.p
  · obtain ⟨i, hi, ht⟩ := hth x hx
    exact ht.pl

/-- A book in the heap H, beside L0. -/
def Bo (g : Nat) (S : St) (M : Nat → Option Obj) (L0 : List Atom) (H : Hp) : Prop :=
  ∃ tv r ts N, S = stOf ts S.gone ∧ RowVal tv 4 (tvs ts) ∧ (∀ x ∈ ts, ThAt ⟨M, N ++ L0⟩ x) ∧ Weak H ⟨M, cbA g tv r ts S.gone ++ (N ++ L0)⟩
theorem Bo.take {g : Nat} {S : St} {M : Nat → Option Obj} {L0 : List Atom} {H : Hp} {A : List Atom} (h : Bo g S M (A ++ L0) H) : Bo g S M L0 H := by
  obtain ⟨tv, r, ts, N, h1, h2, h3, h4⟩ := h
  exact ⟨tv, r, ts, N ++ A, h1, h2, fun x hx => by rw [List.append_assoc]; exact h3 x hx, by rw [List.append_assoc]; exact h4⟩
theorem Bo.weak {g : Nat} {S : St} {M : Nat → Option Obj} {L0 : List Atom} {H H' : Hp} (h : Bo g S M L0 H) (hw : Weak H' H) : Bo g S M L0 H' := by
  obtain ⟨tv, r, ts, N, h1, h2, h3, h4⟩ := h
  exact ⟨tv, r, ts, N, h1, h2, h3, hw.trans h4⟩
theorem Bo.add {g : Nat} {S : St} {M : Nat → Option Obj} {L0 : List Atom} {H : Hp} (h : Bo g S M L0 H) (a : Atom) : Bo g S M (a :: L0) ⟨H.M, a :: H.L⟩ := by
  obtain ⟨tv, r, ts, N, h1, h2, h3, h4⟩ := h
  refine ⟨tv, r, ts, N, h1, h2, fun x hx => (h3 x hx).mono (hle_sub fun y hy => by
    rcases List.mem_append.1 hy with hy | hy
    · exact List.mem_append_left _ hy
    · exact List.mem_append_right _ (List.mem_cons_of_mem _ hy)), (Weak.consAny h4).trans (Weak.perm ?_)⟩
  have e : cbA g tv r ts S.gone ++ (N ++ (a :: L0)) = (cbA g tv r ts S.gone ++ N) ++ a :: L0 := by rw [List.append_assoc]
  have e2 : cbA g tv r ts S.gone ++ (N ++ L0) = (cbA g tv r ts S.gone ++ N) ++ L0 := by rw [List.append_assoc]
  rw [e]
  show (a :: (cbA g tv r ts S.gone ++ (N ++ L0))).Perm _
  rw [e2]
  exact List.perm_middle.symm
section
variable {g : Nat} {S : St} {M : Nat → Option Obj} {L0 : List Atom} {H : Hp} {R : Ending → Hp → Prop}
theorem p_Make (hb : Bo g S M L0 H) (hok : okS S) {fv pv : Value} {f p : List Int} (hf : IntsAt ⟨M, L0⟩ fv f) (hp : IntsAt ⟨M, L0⟩ pv p)
    (hR : ∀ H', Bo g (mkS S f p).1 M L0 H' → R (.returned (.tuple #[.int .i64 (mkS S f p).2.1, .int .i64 (mkS S f p).2.2])) H') : ACalls Try.prog 11 [ptr g, .agg #[fv, pv]] H R := by
  obtain ⟨tv, r, ts, N, hS, h2, h3, h4⟩ := hb
  have hgone : (stOf ts S.gone).gone = S.gone := rfl
  rw [hS] at hok hR
  have ho := hok.ts
  have hle : HLe ⟨M, L0⟩ ⟨M, N ++ L0⟩ := hle_pre N L0
  have hsn : (stOf ts S.gone).ts.length = ts.length := by simp [stOf]
  refine ACalls.weak h4 (c_Make g tv r ts S.gone fv pv f p M _ h2 h3 ho.1 (hf.mono hle) (hp.mono hle) _ (fun he => ?_) (fun he tv' x hx hV ht => ?_))
  · have e1 : (mkS (stOf ts S.gone) f p).1 = stOf ts S.gone ∧ (mkS (stOf ts S.gone) f p).2.1 = 0 := by
      unfold mkS at *
      split
      · exact ⟨rfl, rfl⟩
      · rename_i c1
        rw [if_neg c1] at he
        split
        · exact ⟨rfl, rfl⟩
        · rename_i c2
          rw [if_neg c2] at he
          split
          · exact ⟨rfl, rfl⟩
          · rename_i c3
            rw [if_neg c3] at he
            split
            · exact ⟨rfl, rfl⟩
            · rename_i c4
              rw [if_neg c4] at he
              exact absurd rfl he
    have := hR ⟨M, cbA g tv r ts S.gone ++ (N ++ L0)⟩
    rw [e1.1, e1.2] at this
    exact this ⟨tv, r, ts, N, rfl, h2, h3, Weak.refl _⟩
  · have e1 : (mkS (stOf ts S.gone) f p).1 = stOf (ts ++ [x]) S.gone ∧ (mkS (stOf ts S.gone) f p).2.1 = ts.length := by
      unfold mkS at *
      split
      · rename_i c; rw [if_pos c] at he; simp at he
      · rename_i c1
        rw [if_neg c1] at he
        split
        · rename_i c; rw [if_pos c] at he; simp at he
        · rename_i c2
          rw [if_neg c2] at he
          split
          · rename_i c; rw [if_pos c] at he; simp at he
          · rename_i c3
            rw [if_neg c3] at he
            split
            · rename_i c; rw [if_pos c] at he; simp at he
            · refine ⟨?_, by simp [stOf]⟩
              simp only [stOf, List.map_append, List.map_cons, List.map_nil, hx]
    have := hR ⟨M, cbA g tv' r (ts ++ [x]) S.gone ++ (thR x ++ (N ++ L0))⟩
    rw [e1.1, e1.2, he] at this
    refine this ⟨tv', r, ts ++ [x], thR x ++ N, rfl, ht, fun y hy => ?_, by rw [List.append_assoc]; exact Weak.refl _⟩
    rw [List.append_assoc]
    rcases List.mem_append.1 hy with hy | hy
    · exact (h3 y hy).mono (hle_pre _ _)
    · rw [List.mem_singleton.1 hy]
      exact hV.at fun a ha => List.mem_append_left _ ha
end
end Go.Proofs.Ytjgljgkfflojbaa.A
