/- The model's books: New. -/
import Derived.Test.YtpblnfldhicfgaaB11
namespace Go.Proofs.Ytpblnfldhicfgaa.A
open Go Go.RowKit
set_option linter.unusedVariables false
set_option linter.unusedSimpArgs false
set_option maxRecDepth 4000

/-- A book of the model in memory. -/
def rbA (g : Nat) (a b c d e f : Value) (B : Bk) : List Atom :=
  [.cells g 48 [a, b, c, d, e, f], .row a 24 2 (frs B.lim), .row b 24 2 (frs B.sp), .row c 3 1 (ints B.own), .row d 4 1 (bools B.rem), .row e 24 2 (frs B.most), .row f 24 2 (frs B.owed)]
structure RbV (a b c d e f : Value) (B : Bk) : Prop where
  a : RowVal a 2 (frs B.lim)
  b : RowVal b 2 (frs B.sp)
  c : RowVal c 1 (ints B.own)
  d : RowVal d 1 (bools B.rem)
  e : RowVal e 2 (frs B.most)
  f : RowVal f 2 (frs B.owed)
theorem any_step {α : Type} {l : List α} {P : α → Bool} {k : Nat} (hk : k < l.length) (h : (l.take k).any P = false) (h1 : P l[k] = false) : (l.take (k + 1)).any P = false := by
  rw [List.take_succ_eq_append_getElem hk, List.any_append, h]; simpa using h1
theorem geti_at {l : List Int} {k : Nat} (hk : k < l.length) : geti l k = l[k] := by simp [geti, List.getD_eq_getElem?_getD, hk]
theorem getf_at {l : List Fr} {k : Nat} (hk : k < l.length) : getf l k = l[k] := by simp [getf, List.getD_eq_getElem?_getD, hk]
theorem rowNew {g n sz : Nat} {xs : List Value} (h : xs.length = n * sz) (hn : n ≤ 1000) : RowVal (.slice (some ⟨g, 0, none⟩) n n) sz xs := .inr ⟨g, 0, n, n, rfl, h, Nat.le_refl _, by simp [maxLen]; omega⟩
theorem replicate_frs (n : Nat) (a : Fr) : (frs (List.replicate n a)).length = n * 2 := by rw [frs_length, List.length_replicate]

theorem c_New24 (v v' v'' : Value) (p : List Fr) (o : List Int) (q : List Fr) (H : Hp) (hp : FrsAt H v p) (ho : IntsAt H v' o) (hq : FrsAt H v'' q) (R : Ending → Hp → Prop)
    (h0 : newErr p o q ≠ 0 → R (.returned (.tuple #[.pointer none, .int .i64 (newErr p o q)])) H)
    (h1 : newErr p o q = 0 → ∀ g a b c d e f, RbV a b c d e f (newB p o q) → R (.returned (.tuple #[ptr g, .int .i64 0])) ⟨H.M, rbA g a b c d e f (newB p o q) ++ H.L⟩) : ACalls Try.prog 13 [v, v', v''] H R := by
  obtain ⟨pp, pc, rfl, hplc, hpc⟩ := hp.open
  obtain ⟨op, oc, rfl, holc, hoc⟩ := ho.open
  obtain ⟨qp, qc, rfl, hqlc, hqc⟩ := hq.open
  have bad : ∀ e, e ≠ 0 → newErr p o q = e → R (.returned (.tuple #[.pointer none, .int .i64 e])) H := fun e he h => by rw [← h]; exact h0 (by omega)
  refine acalls_code hT Try.func13 rfl rfl ?_
  conv => whnf
  refine ifC_dec (fun c1 => ?_) (fun c1 => ?_)
  · conv => whnf
    refine ⟨rfl, ?_⟩
    conv => whnf
    exact fin (Weak.refl _) (bad 4 (by omega) (if_pos (by omega)))
  · conv => whnf
    refine ifC_dec (fun c2 => ?_) (fun c2 => ?_)
    · conv => whnf
      refine ⟨rfl, ?_⟩
      conv => whnf
      exact fin (Weak.refl _) (bad 4 (by omega) (if_pos (by omega)))
    · conv => whnf
      unfold newErr at *
      rw [if_neg (by omega)] at *
      refine ifC_dec (fun c3 => ?_) (fun c3 => ?_)
      · conv => whnf
        refine ⟨rfl, ?_⟩
        conv => whnf
        exact fin (Weak.refl _) (bad 1 (by omega) (if_pos (.inl (by omega))))
      · have hol : o.length = p.length := by omega
        conv => whnf
        refine awp_loopL hT 84 [0, 1, 2, 8] (fun n vs H' => ∃ k : Nat, vs = [.slice pp p.length pc, .slice op o.length oc, .slice qp q.length qc, .int .i64 k] ∧ n + k = p.length ∧ ((o.take k).any fun x => decide (x < 0 ∨ x ≥ q.length)) = false ∧ ((p.take k).any fun a => !decide (okC a)) = false ∧ H' = H) p.length rfl rfl (Weak.refl _) ⟨0, rfl, rfl, rfl, rfl, rfl⟩ ?_
        rintro n u vs H' ⟨k, rfl, hk, ht1, ht2, rfl⟩
        conv => whnf
        refine ifC_dec (fun c4 => ?_) (fun c4 => ?_)
        · have hkp : k < p.length := by omega
          have hko : k < o.length := by omega
          conv => whnf
          obtain ⟨go, oo, rfl, hcell⟩ := hoc k (by omega) (by omega)
          refine ⟨go, oo, rfl, by omega, ?_⟩
          conv => whnf
          refine ⟨_, hcell, ?_⟩
          conv => whnf
          refine ifC_dec (fun c5 => ?_) (fun c5 => ?_)
          · conv => whnf
            refine ⟨rfl, ?_⟩
            conv => whnf
            exact fin (Weak.refl _) (bad 1 (by omega) (if_pos (.inr (.inl (List.any_eq_true.2 ⟨_, geti_mem (i := (k : Int)) (by omega) (by omega), decide_eq_true (by omega)⟩)))))
          · conv => whnf
            refine ⟨go, oo, rfl, by omega, ?_⟩
            conv => whnf
            refine ⟨_, hcell, ?_⟩
            conv => whnf
            refine ifC_dec (fun c6 => ?_) (fun c6 => ?_)
            · conv => whnf
              refine ⟨rfl, ?_⟩
              conv => whnf
              exact fin (Weak.refl _) (bad 1 (by omega) (if_pos (.inr (.inl (List.any_eq_true.2 ⟨_, geti_mem (i := (k : Int)) (by omega) (by omega), decide_eq_true (by omega)⟩)))))
            · conv => whnf
              obtain ⟨gp, opp, rfl, hcellp⟩ := hpc k (by omega) (by omega)
              refine ⟨gp, opp, rfl, by omega, ?_⟩
              conv => whnf
              refine ⟨_, rfl, hcellp, ?_⟩
              conv => whnf
              refine c_IsCost _ (hp.get (by omega) (by omega)) _ _ ?_
              conv => whnf
              refine ifC_cases (fun c7 => ?_) (fun c7 => ?_)
              · conv => whnf
                refine ⟨rfl, ?_⟩
                conv => whnf
                exact fin (Weak.refl _) (bad 1 (by omega) (if_pos (.inr (.inr (.inl (List.any_eq_true.2 ⟨_, getf_mem (i := (k : Int)) (by omega) (by omega), c7⟩))))))
              · conv => whnf
                repeat (refine ⟨_, wi (by omega), ?_⟩; conv => whnf)
                refine ⟨rfl, rfl, n - 1, _, by omega, Weak.refl _, k + 1, rfl, by omega, any_step hko ht1 ?_, any_step hkp ht2 ?_, rfl⟩
                · rw [← geti_at hko]; exact decide_eq_false (by omega)
                · rw [← getf_at hkp]; exact c7
        · have hke : k = p.length := by omega
          subst hke
          rw [← hol, List.take_length] at ht1
          rw [List.take_length] at ht2
          conv => whnf
          refine awp_loopL hT 84 [0, 1, 2, 9] (fun n vs H'' => ∃ k : Nat, vs = [.slice pp p.length pc, .slice op o.length oc, .slice qp q.length qc, .int .i64 k] ∧ n + k = q.length ∧ ((q.take k).any fun a => !decide (okC a)) = false ∧ H'' = H') q.length rfl rfl (Weak.refl _) ⟨0, rfl, rfl, rfl, rfl⟩ ?_
          rintro n' u' vs' H'' ⟨k, rfl, hk', ht3, rfl⟩
          conv => whnf
          refine ifC_dec (fun c8 => ?_) (fun c8 => ?_)
          · have hkq : k < q.length := by omega
            conv => whnf
            obtain ⟨gp, opp, rfl, hcellp⟩ := hqc k (by omega) (by omega)
            refine ⟨gp, opp, rfl, by omega, ?_⟩
            conv => whnf
            refine ⟨_, rfl, hcellp, ?_⟩
            conv => whnf
            refine c_IsCost _ (hq.get (by omega) (by omega)) _ _ ?_
            conv => whnf
            refine ifC_cases (fun c7 => ?_) (fun c7 => ?_)
            · conv => whnf
              refine ⟨rfl, ?_⟩
              conv => whnf
              exact fin (Weak.refl _) (bad 1 (by omega) (if_pos (.inr (.inr (.inr (List.any_eq_true.2 ⟨_, getf_mem (i := (k : Int)) (by omega) (by omega), c7⟩))))))
            · conv => whnf
              repeat (refine ⟨_, wi (by omega), ?_⟩; conv => whnf)
              refine ⟨rfl, rfl, n' - 1, _, by omega, Weak.refl _, k + 1, rfl, by omega, any_step hkq ht3 ?_, rfl⟩
              rw [← getf_at hkq]; exact c7
          · have hke : k = q.length := by omega
            subst hke
            rw [List.take_length] at ht3
            have hok := h1 (if_neg (by
                rintro (h | h | h | h)
                · omega
                · rw [ht1] at h; cases h
                · rw [ht2] at h; cases h
                · rw [ht3] at h; cases h))
            conv => whnf
            refine awp_draw hT hM 21 [0, 1, 2, 6, 7, 8, 9, 13, 14, 15, 3, 4, 5, 10, 11, 12, 16, 17, 18, 19, 20] (by kernel_rfl) H''.M H''.L [] (by rw [List.append_nil]; exact Weak.refl _) ?_
            conv => whnf
            intro g0
            conv => whnf
            have mono := fun L => hle_app H''.L L H''.M
            refine ⟨H''.M, H''.L ++ [], [], frs p, hp.reads.mono (mono _), frs_one _, Weak.perm List.perm_middle, by simp [frs_length]; omega, by simp [frs_length, maxLen]; omega, fun v1 r1 => ?_⟩
            obtain ⟨a1, a2, a3, rfl⟩ := r1.slice
            refine ⟨_, _ :: _, weakMid, fun _ _ h => h, ?_⟩
            conv => whnf
            refine c_Take _ o o.length _ (ho.mono (mono _)) (by omega) _ ?_
            rw [List.take_length]
            intro v3 r3
            obtain ⟨c1, c2, c3, rfl⟩ := r3.slice
            refine ⟨_, _ :: _, weakMid, fun _ _ h => h, ?_⟩
            conv => whnf
            intro g4
            conv => whnf
            refine ⟨H''.M, H''.L ++ [_, _], [], frs q, hq.reads.mono (mono _), frs_one _, Weak.perm List.perm_middle, by simp [frs_length]; omega, by simp [frs_length, maxLen]; omega, fun v5 r5 => ?_⟩
            obtain ⟨e1, e2, e3, rfl⟩ := r5.slice
            refine ⟨_, _ :: _, weakMid, fun _ _ h => h, ?_⟩
            conv => whnf
            refine ⟨p.length, rfl, rfl, by omega, by simp [maxLen]; omega, fun g2 => ?_⟩
            rw [repZ_frs]
            conv => whnf
            refine ⟨p.length, rfl, rfl, by omega, by simp [maxLen]; omega, fun g6 => ?_⟩
            rw [repZ_bools]
            conv => whnf
            refine ⟨q.length, rfl, rfl, by omega, by simp [maxLen]; omega, fun g7 => ?_⟩
            rw [repZ_frs]
            conv => whnf
            intro gb
            conv => whnf
            refine ⟨_, Weak.perm List.perm_append_comm, ?_⟩
            conv => whnf
            refine ⟨rfl, ?_⟩
            conv => whnf
            refine fin (H' := ⟨H''.M, rbA _ _ _ _ _ _ _ (newB p o q) ++ H''.L⟩) (weakPull [0, 5, 2, 3, 1, 1, 0] rfl) (hok gb _ _ _ _ _ _ ⟨r1, ?_, r3, ?_, r5, ?_⟩)
            · exact rowNew (by simp [newB, replicate_frs]) (by omega)
            · exact rowNew (by simp [newB, bools_length]) (by omega)
            · exact rowNew (by simp [newB, replicate_frs]) (by omega)
end Go.Proofs.Ytpblnfldhicfgaa.A
