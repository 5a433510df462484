/- The bases of a book; the plain law of ConsentAnew. -/
import Derived.Test.YtjgljgkfflojbaaD15
import Derived.Test.YtjgljgkfflojbaaD17
namespace Go.Proofs.Ytjgljgkfflojbaa.A
open Go Go.RowKit
set_option linter.unusedVariables false
set_option linter.unusedSimpArgs false
set_option maxRecDepth 20000

theorem baseL_on {S S' : St} {f p : List Int} (h : ∀ j ∈ f, (S'.th j).b = (S.th j).b) : baseL S' f p = baseL S f p := by
  unfold baseL
  congr 1
  induction f with
  | nil => rfl
  | cons a f ih => rw [List.flatMap_cons, List.flatMap_cons, h a List.mem_cons_self, ih fun j hj => h j (List.mem_cons_of_mem _ hj)]
theorem lessL_lessL {p g G : List Int} (h : ∀ x ∈ g, x ∈ G) : lessL (lessL p g) G = lessL p G := by
  unfold lessL
  rw [List.filter_filter]
  congr 1
  funext x
  by_cases hx : x ∈ g
  · simp [hx, h x hx]
  · simp [hx]
theorem lessL_id {p g : List Int} (h : ∀ x ∈ p, x ∉ g) : lessL p g = p := List.filter_eq_self.2 fun x hx => by simpa using h x hx
/-- The bases of what is usable; what was made. -/
structure InvA (S : St) (made : List A26) : Prop where
  len : made.length = S.ts.length
  f : ∀ k (h : k < made.length), (S.th k).f = made[k].f
  p : ∀ k (h : k < made.length), ∀ G : List Int, (∀ x ∈ S.gone, x ∈ G) → lessL (S.th k).p G = lessL made[k].p G
  b : ∀ k : Nat, k < S.ts.length → (S.th k).u = true → (S.th k).b = norm (baseL S (S.th k).f (S.th k).p) ∧ ∀ x ∈ (S.th k).p, x ∉ S.gone
theorem rmT_p (x : Int) (t : Th) : (rmT x t).p = t.p := by unfold rmT; split <;> rfl
def madeS (S : St) (a : A26) (made : List A26) : List A26 := if (doS S a).2.2.2 = 0 ∧ a.k ≠ 1 ∧ a.k ≠ 2 then made ++ [a] else made
theorem p_in {S : St} {f p : List Int} {x : Int} (h : x ∈ p) : x ∈ norm (baseL S f p) := ((norm_inc _).2 x).2 (List.mem_append_left _ h)
theorem invA_do {S : St} (hok : okS S) (hI : InvR S) {made : List A26} (hA : InvA S made) {a : A26} (h : (doS S a).2.2.2 = 0) : InvA (doS S a).1 (madeS S a made) := by
  have hml := hA.len
  unfold madeS
  rw [h]
  unfold doS at *
  by_cases h1 : a.k = 1
  · rw [if_pos h1] at h ⊢
    rw [if_neg (by simp [h1])]
    unfold rmS at *
    split at h
    · simp at h
    · rename_i c1
      split at h
      · simp at h
      · rename_i c2
        rw [if_neg c1, if_neg c2]
        have hth : ∀ i : Int, i.toNat < S.ts.length → (⟨S.ts.map (rmT a.n), S.gone ++ [a.n]⟩ : St).th i = rmT a.n (S.th i) := fun i hi => th_map (gone := S.gone) hi
        have hl : (⟨S.ts.map (rmT a.n), S.gone ++ [a.n]⟩ : St).ts.length = S.ts.length := by simp
        refine ⟨by rw [hl]; exact hml, fun k hk => ?_, fun k hk G hG => ?_, fun k hk hu => ?_⟩
        · rw [hth k (by omega), (rmT_f _ _).1]; exact hA.f k hk
        · rw [hth k (by omega), rmT_p]; exact hA.p k hk G fun x hx => hG x (List.mem_append_left _ hx)
        · rw [hl] at hk
          rw [hth k (by omega)] at hu ⊢
          rw [(rmT_f _ _).1, (rmT_f _ _).2, rmT_p]
          obtain ⟨hu1, hu2⟩ := rmT_u.1 hu
          obtain ⟨e1, e2⟩ := hA.b k hk hu1
          refine ⟨?_, fun x hx hg => ?_⟩
          · rw [baseL_on (S := S) fun j hj => by have := hok.fk hk j hj; rw [hth j (by omega), (rmT_f _ _).2]]
            exact e1
          · rcases List.mem_append.1 hg with hg | hg
            · exact e2 x hx hg
            · rw [List.mem_singleton.1 hg] at hx
              exact hu2 (by rw [e1]; exact p_in hx)
  · rw [if_neg h1] at h ⊢
    by_cases h2 : a.k = 2
    · rw [if_pos h2] at h ⊢
      rw [if_neg (by simp [h2])]
      unfold rnS at *
      split at h
      · simp at h
      · rename_i c1
        split at h
        · simp at h
        · rename_i c2
          split at h
          · simp at h
          · rename_i c3
            rw [if_neg c1, if_neg c2, if_neg c3]
            obtain ⟨m, hm⟩ : ∃ m : Nat, a.n = m := ⟨a.n.toNat, by omega⟩
            rw [hm] at c1 c2 c3 ⊢
            have hmn : m < S.ts.length := by omega
            have hl : (⟨S.ts.set ((m : Int)).toNat (rnT S (S.th m)), S.gone⟩ : St).ts.length = S.ts.length := by simp
            have hne : ∀ i : Int, i.toNat ≠ m → (⟨S.ts.set ((m : Int)).toNat (rnT S (S.th m)), S.gone⟩ : St).th i = S.th i := fun i hi => th_set hi
            have hself : (⟨S.ts.set ((m : Int)).toNat (rnT S (S.th m)), S.gone⟩ : St).th m = rnT S (S.th m) := th_self hmn
            have hfm := hok.fk hmn
            refine ⟨by rw [hl]; exact hml, fun k hk => ?_, fun k hk G hG => ?_, fun k hk hu => ?_⟩
            · by_cases hkm : k = m
              · subst hkm; rw [hself]; exact hA.f k hk
              · rw [hne k (by omega)]; exact hA.f k hk
            · by_cases hkm : k = m
              · subst hkm; rw [hself]; exact (lessL_lessL hG).trans (hA.p k hk G hG)
              · rw [hne k (by omega)]; exact hA.p k hk G hG
            · rw [hl] at hk
              by_cases hkm : k = m
              · subst hkm
                rw [hself]
                refine ⟨?_, fun x hx => by simpa using (List.mem_filter.1 hx).2⟩
                rw [baseL_on (S := S) fun j hj => by have := hfm j hj; rw [hne j (by omega)]]
                rfl
              · rw [hne k (by omega)] at hu ⊢
                obtain ⟨e1, e2⟩ := hA.b k hk hu
                refine ⟨?_, e2⟩
                rw [baseL_on (S := S) fun j hj => ?_]
                · exact e1
                · have := hok.fk hk j hj
                  have h5 := hI.f k hk hu j hj
                  rw [hne j fun e => by
                    have : j = m := by omega
                    rw [this] at h5
                    exact c2 h5.1]
    · rw [if_neg h2] at h ⊢
      rw [if_pos ⟨rfl, h1, h2⟩]
      unfold mkS at *
      split at h
      · simp at h
      · rename_i c1
        split at h
        · simp at h
        · rename_i c2
          split at h
          · simp at h
          · rename_i c3
            split at h
            · simp at h
            · rename_i c4
              rw [if_neg c1, if_neg c2, if_neg c3, if_neg c4]
              have hl : (⟨S.ts ++ [⟨a.f, a.p, norm (baseL S a.f a.p), true⟩], S.gone⟩ : St).ts.length = S.ts.length + 1 := by simp
              have hold : ∀ i : Int, i.toNat < S.ts.length → (⟨S.ts ++ [⟨a.f, a.p, norm (baseL S a.f a.p), true⟩], S.gone⟩ : St).th i = S.th i := fun i hi => th_app hi
              have hself : (⟨S.ts ++ [⟨a.f, a.p, norm (baseL S a.f a.p), true⟩], S.gone⟩ : St).th S.ts.length = ⟨a.f, a.p, norm (baseL S a.f a.p), true⟩ := th_new
              have hf : riseF (-1) S.ts.length a.f = true := by cases hh : riseF (-1) S.ts.length a.f <;> simp_all
              have hp : ∀ x ∈ a.p, x ∉ S.gone := fun x hx hg => c3 (List.any_eq_true.2 ⟨x, hx, by simpa using hg⟩)
              refine ⟨by rw [hl]; simp; omega, fun k hk => ?_, fun k hk G hG => ?_, fun k hk hu => ?_⟩
              · rw [List.length_append, List.length_singleton] at hk
                rcases Nat.lt_or_ge k made.length with h | h
                · rw [List.getElem_append_left h, hold k (by omega)]; exact hA.f k h
                · obtain rfl : k = S.ts.length := by omega
                  rw [List.getElem_append_right h, hself]; simp only [List.getElem_singleton]
              · rw [List.length_append, List.length_singleton] at hk
                rcases Nat.lt_or_ge k made.length with h | h
                · rw [List.getElem_append_left h, hold k (by omega)]; exact hA.p k h G hG
                · obtain rfl : k = S.ts.length := by omega
                  rw [List.getElem_append_right h, hself]; simp only [List.getElem_singleton]
              · rw [hl] at hk
                by_cases hkm : k = S.ts.length
                · subst hkm
                  rw [hself]
                  refine ⟨?_, hp⟩
                  exact congrArg norm (baseL_on fun j hj => by have := (riseF_iff.1 hf).2 j hj; rw [hold j (by omega)]).symm
                · rw [hold k (by omega)] at hu ⊢
                  obtain ⟨e1, e2⟩ := hA.b k (by omega) hu
                  refine ⟨?_, e2⟩
                  rw [baseL_on (S := S) fun j hj => by have := hok.fk (k := k) (by omega) j hj; rw [hold j (by omega)]]
                  exact e1
end Go.Proofs.Ytjgljgkfflojbaa.A
