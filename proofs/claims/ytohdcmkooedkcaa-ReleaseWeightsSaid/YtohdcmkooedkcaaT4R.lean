/- dioramaref25: Persons. -/
import Derived.Test.YtohdcmkooedkcaaT4
namespace Go.Proofs.Ytohdcmkooedkcaa.A
open Go Go.RowKit
set_option linter.unusedVariables false
set_option linter.unusedSimpArgs false
set_option maxRecDepth 20000

def upTo (l : List Int) (p : Int) : List Int := (srt l).filter fun x => decide (x < p)
theorem srt_inc {l : List Int} (h : l.Nodup) : Inc (srt l) := by
  have h1 := srt_sorted l
  have h2 : (srt l).Nodup := (List.mergeSort_perm l _).nodup_iff.2 h
  exact (h1.and h2).imp fun {a b} h => by omega
theorem upTo_succ {l : List Int} (h : l.Nodup) (p : Int) : upTo l (p + 1) = upTo l p ++ (if p ∈ l then [p] else []) := by
  have hi := srt_inc h
  refine inc_ext (hi.filter _) ?_ fun x => ?_
  · refine List.pairwise_append.2 ⟨hi.filter _, by split <;> simp, fun a ha b hb => ?_⟩
    split at hb
    · rw [List.mem_singleton.1 hb]
      have := (List.mem_filter.1 ha).2
      simpa using this
    · simp at hb
  · rw [List.mem_append]
    unfold upTo
    rw [List.mem_filter, List.mem_filter, mem_srt]
    by_cases hp : p ∈ l
    · rw [if_pos hp, List.mem_singleton]
      simp only [decide_eq_true_eq]
      constructor
      · rintro ⟨h1, h2⟩
        by_cases hx : x = p
        · exact .inr hx
        · exact .inl ⟨h1, by omega⟩
      · rintro (⟨h1, h2⟩ | rfl)
        · exact ⟨h1, by omega⟩
        · exact ⟨hp, by omega⟩
    · rw [if_neg hp]
      simp only [decide_eq_true_eq, List.not_mem_nil, or_false]
      constructor
      · rintro ⟨h1, h2⟩
        exact ⟨h1, by
          have : x ≠ p := fun e => hp (e ▸ h1)
          omega⟩
      · rintro ⟨h1, h2⟩
        exact ⟨h1, by omega⟩
theorem upTo_all {l : List Int} {p : Int} (h : (∀ x ∈ l, x < p) ∨ (l.length ≤ (upTo l p).length)) : upTo l p = srt l := by
  unfold upTo at *
  rcases h with h | h
  · exact List.filter_eq_self.2 fun x hx => decide_eq_true (h x ((mem_srt l x).1 hx))
  · have h2 := List.length_filter_le (fun x => decide (x < p)) (srt l)
    rw [srt_length] at h2
    exact List.filter_eq_self.2 (List.length_filter_eq_length_iff.1 (by rw [srt_length]; omega))
theorem upTo_len (l : List Int) (p : Int) : (upTo l p).length ≤ l.length := by
  have h2 := List.length_filter_le (fun x => decide (x < p)) (srt l)
  rw [srt_length] at h2
  exact h2
set_option maxHeartbeats 2000000 in
theorem c_PersonsR (sv rv : Value) (sz : List Int) (rs : List RV) (H : Hp) (h : TbAt H sv rv sz rs) (ho : okTb (tbOf sz rs)) (R : Ending → Hp → Prop)
    (hR : ∀ v', RowVal v' 1 (ints (personsT (tbOf sz rs))) → R (.returned v') ⟨H.M, .row v' 3 1 (ints (personsT (tbOf sz rs))) :: H.L⟩) :
    ACalls Try.prog 13 [.agg #[sv, rv]] H R := by
  obtain ⟨ps, cs, rfl, hcs⟩ := intsAt h.s
  obtain ⟨pr, cr, rfl, hcr⟩ := rvAt h.r
  unfold personsT at hR
  refine acalls_code hT Try.func13 rfl rfl ?_
  conv => whnf
  intro g1
  conv => whnf
  refine ldA 0 rfl rfl ?_
  conv => whnf
  refine c_ValidR _ _ sz rs _ (h.mono (HLe.cons H _)) ho _ ?_
  conv => whnf
  by_cases hv : validT (tbOf sz rs) = 0
  · rw [if_pos hv] at hR
    have hrl := (valid0 hv).2.1
    have hnd := (valid0 hv).2.2.2.2
    have hrg := ps_range hv
    rw [tbOf_rows] at hrl
    rw [ps_tb] at hR hnd hrg
    have hpl : (rs.map (·.r.p)).length = rs.length := List.length_map _
    generalize hpsd : rs.map (·.r.p) = pp at *
    have hu0 : upTo pp ((0 : Nat) : Int) = [] := List.filter_eq_nil_iff.2 fun x hx => by have := hrg x ((mem_srt pp x).1 hx); simp; omega
    refine ifC_neg (by rw [hv]; simp) ?_
    conv => whnf
    refine awp_loopL hT 41 [1, 3, 4] (fun m vs H' => ∃ (p : Nat) (z : Int) (s : Value), vs = [ptr g1, s, .int .i64 z] ∧ z = p ∧ m + p = 65536 ∧ RowVal s 1 (ints (upTo pp p)) ∧
      H' = ⟨H.M, .row s 3 1 (ints (upTo pp p)) :: .cells g1 25 [.slice ps sz.length cs, .slice pr rs.length cr] :: H.L⟩) 65536 rfl rfl (weakNil _ 3 1) ⟨0, 0, .slice none 0 0, rfl, rfl, rfl, ?_, ?_⟩ ?_
    · rw [hu0]; exact .inl ⟨rfl, rfl⟩
    · rw [hu0]; rfl
    rintro m u vs H' ⟨p, z, s, rfl, hz, hm, hs, rfl⟩
    have hul := upTo_len pp p
    obtain ⟨s1, s3, rfl⟩ := hs.cnt (by omega) (by rw [ints_length, Nat.mul_one])
    conv => whnf
    refine ifC_dec (fun h1 => ?_) (fun h1 => ?_)
    · conv => whnf
      refine ldS 1 rfl rfl ?_
      conv => whnf
      refine ifC_dec (fun h2 => ?_) (fun h2 => ?_)
      · conv => whnf
        refine awp_loopL hT 41 [1, 3, 4, 5] (fun m vs H' => ∃ (i : Nat) (s : Value), vs = [ptr g1, s, .int .i64 z, .int .i64 i] ∧ m + i = rs.length ∧ RowVal s 1 (ints (upTo pp p ++ (if (p : Int) ∈ pp.take i then [(p : Int)] else []))) ∧
          H' = ⟨H.M, .row s 3 1 (ints (upTo pp p ++ (if (p : Int) ∈ pp.take i then [(p : Int)] else []))) :: .cells g1 25 [.slice ps sz.length cs, .slice pr rs.length cr] :: H.L⟩) rs.length rfl rfl (by simp; exact Weak.refl _) ⟨0, _, rfl, by omega, by simpa using hs, rfl⟩ ?_
        rintro m2 u2 vs2 H2 ⟨i, s, rfl, hm2, hs2, rfl⟩
        obtain ⟨y1, y2, y3, rfl⟩ := hs2.slice
        conv => whnf
        refine ldS 1 rfl rfl ?_
        conv => whnf
        refine ifC_dec (fun h3 => ?_) (fun h3 => ?_)
        · have hil : i < rs.length := by omega
          have hipp : i < pp.length := by omega
          obtain ⟨gr, or', rfl, hce⟩ := hcr i hil
          have hpi : pp[i] = rs[i].r.p := by subst hpsd; rw [List.getElem_map]
          have htk : pp.take (i + 1) = pp.take i ++ [rs[i].r.p] := by rw [List.take_succ_eq_append_getElem hipp, hpi]
          conv => whnf
          refine ldS 1 rfl rfl ?_
          conv => whnf
          refine ⟨gr, or', rfl, by omega, ?_⟩
          conv => whnf
          refine ⟨_, (hce.mono (hle_sub fun a ha => by simp [ha])) 0 _ rfl, ?_⟩
          conv => whnf
          refine ifC_dec (fun h4 => ?_) (fun h4 => ?_)
          · have hno : (p : Int) ∉ pp.take i := fun hin => by
              obtain ⟨j, hj, e⟩ := List.getElem_of_mem hin
              rw [List.getElem_take] at e
              rw [List.length_take] at hj
              exact nodup_at.1 hnd i j hipp (by omega) (by omega) (by rw [hpi, e, h4, hz])
            have hsucc : upTo pp p ++ (if (p : Int) ∈ pp.take (i + 1) then [(p : Int)] else []) = (upTo pp p ++ (if (p : Int) ∈ pp.take i then [(p : Int)] else [])) ++ [(p : Int)] := by
              rw [if_neg hno, List.append_nil, if_pos (by rw [htk, h4, hz]; simp)]
            have hlen : (upTo pp p ++ (if (p : Int) ∈ pp.take i then [(p : Int)] else [])).length ≤ 64 := by rw [if_neg hno, List.append_nil]; omega
            conv => whnf
            intro q
            conv => whnf
            refine ⟨H.M, _, ints (upTo pp p ++ (if (p : Int) ∈ pp.take i then [(p : Int)] else [])), ints [(p : Int)], (by rw [← hz]; exact readsNew rfl rfl), ints_one _, weakDel 0 rfl, by rw [ints_length, ints_length]; simp only [List.length_singleton]; omega, by rw [ints_length, ints_length]; simp only [List.length_singleton, maxLen]; omega, fun v' hv' => ?_⟩
            rw [← ints_append, ← hsucc] at *
            conv => whnf
            repeat (refine ⟨_, wi (by omega), ?_⟩; conv => whnf)
            exact ⟨rfl, rfl, m2 - 1, _, by omega, Weak.refl _, i + 1, v', rfl, by omega, hv', rfl⟩
          · have hsucc : (if (p : Int) ∈ pp.take (i + 1) then [(p : Int)] else []) = (if (p : Int) ∈ pp.take i then [(p : Int)] else []) := by
              have : (p : Int) ∈ pp.take (i + 1) ↔ (p : Int) ∈ pp.take i := by
                rw [htk, List.mem_append, List.mem_singleton]
                exact ⟨fun h => h.elim id fun e => absurd (e.symm.trans hz.symm) h4, .inl⟩
              simp only [this]
            conv => whnf
            repeat (refine ⟨_, wi (by omega), ?_⟩; conv => whnf)
            exact ⟨rfl, rfl, m2 - 1, _, by omega, Weak.refl _, i + 1, .slice y1 y2 y3, rfl, by omega, by rw [hsucc]; exact hs2, by rw [hsucc]⟩
        · have hie : i = rs.length := by omega
          subst hie
          have e1 : upTo pp p ++ (if (p : Int) ∈ pp.take rs.length then [(p : Int)] else []) = upTo pp ((p + 1 : Nat) : Int) := by
            rw [← hpl, List.take_length]
            exact (upTo_succ hnd p).symm
          rw [e1] at hs2 ⊢
          conv => whnf
          repeat (refine ⟨_, wi (by omega), ?_⟩; conv => whnf)
          exact ⟨rfl, rfl, m - 1, _, by omega, Weak.refl _, p + 1, z + 1, .slice y1 y2 y3, rfl, by omega, by omega, hs2, rfl⟩
      · conv => whnf
        refine ⟨rfl, ?_⟩
        conv => whnf
        have hall := upTo_all (l := pp) (p := (p : Int)) ((.inr (by omega)))
        rw [hall] at hs ⊢
        exact fin (weakDel 1 rfl) (hR _ hs)
    · conv => whnf
      refine ⟨rfl, ?_⟩
      conv => whnf
      have hall := upTo_all (l := pp) (p := (p : Int)) ((.inl fun x hx => by have := hrg x hx; omega))
      rw [hall] at hs ⊢
      exact fin (weakDel 1 rfl) (hR _ hs)
  · rw [if_neg hv] at hR
    refine ifC_pos (hv) ?_
    conv => whnf
    refine ⟨rfl, ?_⟩
    conv => whnf
    exact fin ((weakK 1 rfl).trans (weakNil _ 3 1)) (hR _ (.inl ⟨rfl, rfl⟩))
end Go.Proofs.Ytohdcmkooedkcaa.A
