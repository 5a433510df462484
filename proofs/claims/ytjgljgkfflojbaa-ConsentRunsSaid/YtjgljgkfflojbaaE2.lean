/- dioramaref26: Make, Remove. -/
import Derived.Test.YtjgljgkfflojbaaE1
namespace Go.Proofs.Ytjgljgkfflojbaa.A
open Go Go.RowKit
set_option linter.unusedVariables false
set_option linter.unusedSimpArgs false
set_option maxRecDepth 20000

theorem RowVal.cnt {v : Value} {sz : Nat} {xs : List Value} (h : RowVal v sz xs) (h0 : 0 < sz) {k : Nat} (hk : xs.length = k * sz) : ∃ p c, v = .slice p k c := by
  rcases h with ⟨rfl, rfl⟩ | ⟨g, o, n, c, rfl, h1, _, _⟩
  · have : k = 0 := by
      rcases Nat.eq_zero_or_pos k with h | h
      · exact h
      · have := Nat.mul_pos h h0
        simp at hk; omega
    subst this; exact ⟨_, _, rfl⟩
  · have := Nat.eq_of_mul_eq_mul_right h0 (h1.symm.trans hk)
    subst this; exact ⟨_, _, rfl⟩
theorem Reads.slice {H : Hp} {v : Value} {sz : Nat} {xs : List Value} (h : Reads H v sz xs) : ∃ p n c, v = .slice p n c := by
  obtain ⟨p, n, c, rfl, _⟩ := h
  exact ⟨_, _, _, rfl⟩
set_option maxHeartbeats 2000000 in
theorem c_Make26r (g : Nat) (tv bv uv gv : Value) (ts : List TV) (gone : List Int) (fv pv : Value) (f p : List Int) (M : Nat → Option Obj) (L : List Atom) (hV : RfV tv bv uv gv ts gone) (hl : ∀ x ∈ ts, ThAt ⟨M, L⟩ x) (hok : okS (stOf ts gone)) (hgl : gone.length ≤ 65536)
    (hf : IntsAt ⟨M, L⟩ fv f) (hp : IntsAt ⟨M, L⟩ pv p) (R : Ending → Hp → Prop)
    (h0 : (mkS (stOf ts gone) f p).2.2 ≠ 0 → R (.returned (.tuple #[.int .i64 0, .int .i64 (mkS (stOf ts gone) f p).2.2])) ⟨M, rfA g tv bv uv gv ts gone ++ L⟩)
    (h1 : (mkS (stOf ts gone) f p).2.2 = 0 → ∀ tv' bv' uv' x, x.t = ⟨f, p, norm (baseL (stOf ts gone) f p), true⟩ → x.fv = fv → x.pv = pv → RowVal x.bv 1 (ints x.t.b) → RfV tv' bv' uv' gv (ts ++ [x]) gone →
      R (.returned (.tuple #[.int .i64 ts.length, .int .i64 0])) ⟨M, rfA g tv' bv' uv' gv (ts ++ [x]) gone ++ (.row x.bv 3 1 (ints x.t.b) :: L)⟩) :
    ACalls Try.prog 45 [ptr g, .agg #[fv, pv]] ⟨M, rfA g tv bv uv gv ts gone ++ L⟩ R := by
  have ho := hok.ts.1
  have hn := ho.n
  obtain ⟨pf, cf, rfl, hfc, hcf⟩ := hf.open
  obtain ⟨pp, cp, rfl, hpc, hcp⟩ := hp.open
  obtain ⟨t1, t3, rfl⟩ := hV.t.cnt (by omega) (rts_length ts)
  obtain ⟨b1, b3, rfl⟩ := hV.b.cnt (by omega) (by rw [rbs_length, Nat.mul_one])
  obtain ⟨u1, u3, rfl⟩ := hV.u.cnt (by omega) (by rw [rus_length, Nat.mul_one])
  obtain ⟨g1, g3, rfl⟩ := hV.g.cnt (by omega) (by rw [ints_length, Nat.mul_one])
  have hsn : (stOf ts gone).ts.length = ts.length := by simp [stOf]
  have out : ∀ e, e ≠ 0 → (mkS (stOf ts gone) f p).2.2 = e → R (.returned (.tuple #[.int .i64 0, .int .i64 e])) ⟨M, rfA g (.slice t1 ts.length t3) (.slice b1 ts.length b3) (.slice u1 ts.length u3) (.slice g1 gone.length g3) ts gone ++ L⟩ := fun e he h => by rw [← h]; exact h0 (by rw [h]; exact he)
  have hcb : ∀ L', (∀ a ∈ rfA g (.slice t1 ts.length t3) (.slice b1 ts.length b3) (.slice u1 ts.length u3) (.slice g1 gone.length g3) ts gone ++ L, a ∈ L') → RfAt ⟨M, L'⟩ g (.slice t1 ts.length t3) (.slice b1 ts.length b3) (.slice u1 ts.length u3) (.slice g1 gone.length g3) ts gone :=
    fun L' h => rfIn hV (fun x hx => (hl x hx).mono (hle_sub fun a ha => h a (List.mem_append_right _ ha))) fun a ha => h a (List.mem_append_left _ ha)
  refine acalls_code hT Try.func45 rfl rfl ?_
  conv => whnf
  intro g3'
  conv => whnf
  have hcb3 := hcb (.cells g3' 40 [.slice pf f.length cf, .slice pp p.length cp] :: (rfA g (.slice t1 ts.length t3) (.slice b1 ts.length b3) (.slice u1 ts.length u3) (.slice g1 gone.length g3) ts gone ++ L)) (fun a ha => List.mem_cons_of_mem _ ha)
  have hf3 : IntsAt ⟨M, .cells g3' 40 [.slice pf f.length cf, .slice pp p.length cp] :: (rfA g (.slice t1 ts.length t3) (.slice b1 ts.length b3) (.slice u1 ts.length u3) (.slice g1 gone.length g3) ts gone ++ L)⟩ (.slice pf f.length cf) f := hf.mono (hle_sub fun a ha => by simp [ha])
  have hp3 : IntsAt ⟨M, .cells g3' 40 [.slice pf f.length cf, .slice pp p.length cp] :: (rfA g (.slice t1 ts.length t3) (.slice b1 ts.length b3) (.slice u1 ts.length u3) (.slice g1 gone.length g3) ts gone ++ L)⟩ (.slice pp p.length cp) p := hp.mono (hle_sub fun a ha => by simp [ha])
  refine ⟨_, hcb3.h 0 _ rfl, ?_⟩
  conv => whnf
  unfold mkS at out h0 h1
  rw [hsn, show (stOf ts gone).gone = gone from rfl] at out h0 h1
  refine ifC_dec (fun c1 => ?_) (fun c1 => ?_)
  · conv => whnf
    refine ⟨rfl, ?_⟩
    conv => whnf
    exact fin (weakK 1 rfl) (out 4 (by omega) (by rw [if_pos (by omega)]))
  · conv => whnf
    refine ldS 0 rfl rfl ?_
    conv => whnf
    refine ifC_dec (fun c2 => ?_) (fun c2 => ?_)
    · conv => whnf
      refine ⟨rfl, ?_⟩
      conv => whnf
      exact fin (weakK 1 rfl) (out 4 (by omega) (by rw [if_pos (by omega)]))
    · rw [if_neg (by omega)] at out h0 h1
      conv => whnf
      refine awp_drawQ hT hM 15 (by kernel_rfl) ?_
      conv => whnf
      refine ldS 0 rfl rfl ?_
      conv => whnf
      refine ⟨_, hcb3.h 0 _ rfl, ?_⟩
      conv => whnf
      refine c_Rising26 _ f ts.length _ hf3 _ ⟨Weak.refl _, ?_⟩
      cases hrf : riseF (-1) ts.length f with
      | false =>
        conv => whnf
        refine ⟨rfl, ?_⟩
        conv => whnf
        exact fin (weakK 1 rfl) (out 1 (by omega) (by rw [if_pos (.inl hrf)]))
      | true =>
        conv => whnf
        refine ldS 0 rfl rfl ?_
        conv => whnf
        refine c_Rising26 _ p 65536 _ hp3 _ ⟨Weak.refl _, ?_⟩
        cases hrp : riseF (-1) 65536 p with
        | false =>
          conv => whnf
          refine ⟨rfl, ?_⟩
          conv => whnf
          exact fin (weakK 1 rfl) (out 1 (by omega) (by rw [if_pos (.inr hrp)]))
        | true =>
          rw [if_neg (by rw [hrf, hrp]; simp)] at out h0 h1
          have hinf := fun x hx => (riseF_iff.1 hrf).2 x hx
          have hinp := fun x hx => (riseF_iff.1 hrp).2 x hx
          have hlf := riseF_len hrf
          have hIg : IntsAt ⟨M, .cells g3' 40 [.slice pf f.length cf, .slice pp p.length cp] :: (rfA g (.slice t1 ts.length t3) (.slice b1 ts.length b3) (.slice u1 ts.length u3) (.slice g1 gone.length g3) ts gone ++ L)⟩ (.slice g1 gone.length g3) gone := ⟨hcb3.g, fun x hx => by have := hok.gone x hx; omega, by omega⟩
          conv => whnf
          refine awp_loopL hT 94 [0, 3, 6] (fun m vs H' => ∃ k : Nat, vs = [ptr g, ptr g3', .int .i64 k] ∧ m + k = p.length ∧ (p.take k).any (fun x => decide (x ∈ gone)) = false ∧ H' = ⟨M, .cells g3' 40 [.slice pf f.length cf, .slice pp p.length cp] :: (rfA g (.slice t1 ts.length t3) (.slice b1 ts.length b3) (.slice u1 ts.length u3) (.slice g1 gone.length g3) ts gone ++ L)⟩) p.length rfl rfl (Weak.refl _) ⟨0, rfl, rfl, rfl, rfl⟩ ?_
          rintro m u vs H' ⟨k, rfl, hk, ht, rfl⟩
          conv => whnf
          refine ldS 0 rfl rfl ?_
          conv => whnf
          refine ifC_dec (fun h2 => ?_) (fun h2 => ?_)
          · have hkl : k < p.length := by omega
            obtain ⟨gp, op, rfl, hcell⟩ := hcp k (by omega) (by omega)
            conv => whnf
            refine awp_drawQ hT hM 10 (by kernel_rfl) ?_
            conv => whnf
            refine ⟨_, hcb3.h 3 _ rfl, ?_⟩
            conv => whnf
            refine ldS 0 rfl rfl ?_
            conv => whnf
            refine ⟨gp, op, rfl, by omega, ?_⟩
            conv => whnf
            refine ⟨_, HLe.cell (hle_sub (L := L) fun a ha => List.mem_cons_of_mem _ (List.mem_append_right _ ha)) hcell, ?_⟩
            conv => whnf
            refine c_Has26 _ gone _ _ hIg _ ⟨Weak.refl _, ?_⟩
            by_cases hx : geti p k ∈ gone
            · rw [decide_eq_true hx]
              have hany : (p.any fun x => decide (x ∈ gone)) = true := List.any_eq_true.2 ⟨_, geti_mem (l := p) (i := (k : Int)) (by omega) (by omega), decide_eq_true hx⟩
              conv => whnf
              refine ⟨rfl, ?_⟩
              conv => whnf
              exact fin (weakK 1 rfl) (out 24 (by omega) (by rw [if_pos hany]))
            · rw [decide_eq_false hx]
              conv => whnf
              repeat (refine ⟨_, wi (by omega), ?_⟩; conv => whnf)
              exact ⟨rfl, rfl, m - 1, _, by omega, Weak.refl _, k + 1, rfl, by omega, any_step hkl ht (by rw [← geti_at hkl]; exact decide_eq_false hx), rfl⟩
          · have hkp : k = p.length := by omega
            subst hkp
            rw [List.take_length] at ht
            rw [if_neg (by show ¬ (p.any fun x => decide (x ∈ gone)) = true; rw [ht]; simp)] at out h0 h1
            conv => whnf
            refine ldS 0 rfl rfl ?_
            conv => whnf
            refine c_Stale26 g _ _ _ _ ts gone _ f _ hcb3 hf3 (fun x hx => by have := hinf x hx; omega) _ ?_
            cases hst : staleS (stOf ts gone) f with
            | true =>
              conv => whnf
              refine ⟨rfl, ?_⟩
              conv => whnf
              exact fin (weakK 1 rfl) (out 17 (by omega) (by rw [if_pos hst]))
            | false =>
              rw [if_neg (by rw [hst]; simp)] at out h0 h1
              clear out h0
              have h1 := h1 rfl
              conv => whnf
              refine ldA 0 rfl rfl ?_
              conv => whnf
              refine c_Base26 g _ _ _ _ ts gone _ _ f p _ hcb3.h hcb3.b (fun x hx => (hcb3.l x hx).b) ho hf3 hp3 (by omega) (by omega) (fun x hx => by have := hinp x hx; omega) (fun x hx => by have := hinf x hx; omega) _ ?_
              intro bw hbw
              obtain ⟨w1, w2, w3, rfl⟩ := hbw.slice
              obtain ⟨x, ex⟩ : ∃ x : TV, x = ⟨.slice pf f.length cf, .slice pp p.length cp, .slice w1 w2 w3, ⟨f, p, norm (baseL (stOf ts gone) f p), true⟩⟩ := ⟨_, rfl⟩
              conv => whnf
              -- things
              refine awp_drawL (lk := [63]) hT hM 11 (List.range 11) (by kernel_rfl) M (.row (.slice w1 w2 w3) 3 1 (ints (norm (baseL (stOf ts gone) f p))) :: .cells g3' 40 [.slice pf f.length cf, .slice pp p.length cp] :: .row (.slice b1 ts.length b3) 22 1 (rbs ts) :: .row (.slice u1 ts.length u3) 4 1 (rus ts) :: .row (.slice g1 gone.length g3) 3 1 (ints gone) :: L)
                [.cells g 54 [.slice t1 ts.length t3, .slice b1 ts.length b3, .slice u1 ts.length u3, .slice g1 gone.length g3], .row (.slice t1 ts.length t3) 40 2 (rts ts)]
                ((weakPull [2, 2] (L' := .cells g 54 [.slice t1 ts.length t3, .slice b1 ts.length b3, .slice u1 ts.length u3, .slice g1 gone.length g3] :: .row (.slice t1 ts.length t3) 40 2 (rts ts) :: (.row (.slice w1 w2 w3) 3 1 (ints (norm (baseL (stOf ts gone) f p))) :: .cells g3' 40 [.slice pf f.length cf, .slice pp p.length cp] :: .row (.slice b1 ts.length b3) 22 1 (rbs ts) :: .row (.slice u1 ts.length u3) 4 1 (rus ts) :: .row (.slice g1 gone.length g3) 3 1 (ints gone) :: L)) rfl).trans (Weak.perm (List.perm_append_comm (l₁ := [_, _])))) ?_
              conv => whnf
              refine ⟨_, cellOwn (e := 54) (cs := [.slice t1 ts.length t3, .slice b1 ts.length b3, .slice u1 ts.length u3, .slice g1 gone.length g3]) (List.mem_append_right _ (by simp)) rfl, ?_⟩
              refine ⟨_, _, Weak.refl _, fun _ _ h => h, ?_⟩
              conv => whnf
              refine ldA 1 rfl rfl ?_
              conv => whnf
              intro q
              conv => whnf
              refine ⟨M, (.row (.slice w1 w2 w3) 3 1 (ints (norm (baseL (stOf ts gone) f p))) :: .cells g3' 40 [.slice pf f.length cf, .slice pp p.length cp] :: .row (.slice b1 ts.length b3) 22 1 (rbs ts) :: .row (.slice u1 ts.length u3) 4 1 (rus ts) :: .row (.slice g1 gone.length g3) 3 1 (ints gone) :: L) ++ [.row (.slice (some ⟨q, 0, none⟩) 1 1) 40 2 (rts [x]), .cells g 54 [.slice t1 ts.length t3, .slice b1 ts.length b3, .slice u1 ts.length u3, .slice g1 gone.length g3]], rts ts, rts [x], readsRow (e := 40) (v := .slice (some ⟨q, 0, none⟩) 1 1) (List.mem_append_right _ (by rw [ex]; exact List.mem_cons_self)) (rowNew (by rw [rts_length]; rfl) (by omega)), by rw [ex]; simp [rts, rtc, Value.oneCell'],
                ?_, by rw [rts_length, rts_length]; simp; omega, by rw [rts_length, rts_length]; simp [maxLen]; omega, ?_⟩
              · rw [ex]
                exact (Weak.perm List.perm_append_comm).trans ((weakPull [2] rfl).trans (Weak.perm (List.Perm.cons _ (List.perm_append_comm (l₁ := [_, _])))))
              rw [← rts_append]
              intro tv' htv
              obtain ⟨q1, q3, rfl⟩ := htv.cnt (by omega) (rts_length _)
              rw [show (ts ++ [x]).length = ts.length + 1 by simp] at *
              refine ⟨_, _ :: _, weakMid, fun _ _ h => h, ?_⟩
              conv => whnf
              refine stR 2 rfl rfl (by first | (refine ⟨rfl, ?_⟩; repeat' (first | exact trivial | refine ⟨rfl, ?_⟩)) | simp [oneCells, Value.oneCell', setN]) ?_
              conv => whnf
              refine ⟨_, _, Weak.refl _, fun _ _ h => h, ?_⟩
              conv => whnf
              refine ⟨⟨M, .cells g 54 [.slice q1 (ts.length + 1) q3, .slice b1 ts.length b3, .slice u1 ts.length u3, .slice g1 gone.length g3] :: .row (.slice q1 (ts.length + 1) q3) 40 2 (rts (ts ++ [x])) :: .row (.slice b1 ts.length b3) 22 1 (rbs ts) :: .row (.slice u1 ts.length u3) 4 1 (rus ts) :: .row (.slice g1 gone.length g3) 3 1 (ints gone) :: .row (.slice w1 w2 w3) 3 1 (ints (norm (baseL (stOf ts gone) f p))) :: L⟩, (Weak.perm List.perm_append_comm).trans ((weakPull [2, 0, 3, 3, 3, 1] rfl).trans (weakSkip 6 2 rfl)), ?_⟩
              conv => whnf
              -- bases
              refine ldS 0 rfl rfl ?_
              conv => whnf
              intro q'
              conv => whnf
              refine ⟨M, _, rbs ts, rbs [x], readsRow (e := 22) (v := .slice (some ⟨q', 0, none⟩) 1 1) (by rw [ex]; exact List.mem_cons_self) (rowNew rfl (by omega)), by rw [ex]; simp [rbs, Value.oneCell'], (weakDel 0 rfl).trans (weakPull [2] rfl), by rw [rbs_length, rbs_length]; simp; omega, by rw [rbs_length, rbs_length]; simp [maxLen]; omega, ?_⟩
              rw [← rbs_append]
              intro bv' hbv
              obtain ⟨q2, q4, rfl⟩ := hbv.cnt (by omega) (by rw [rbs_length, Nat.mul_one])
              rw [show (ts ++ [x]).length = ts.length + 1 by simp] at *
              conv => whnf
              refine stC 1 rfl rfl (by first | (refine ⟨rfl, ?_⟩; repeat' (first | exact trivial | refine ⟨rfl, ?_⟩)) | simp [oneCells, Value.oneCell', setN]) ?_
              conv => whnf
              refine ldS 1 rfl rfl ?_
              conv => whnf
              intro q''
              conv => whnf
              refine ⟨M, _, rus ts, rus [x], readsRow (e := 4) (v := .slice (some ⟨q'', 0, none⟩) 1 1) (by rw [ex]; exact List.mem_cons_self) (rowNew rfl (by omega)), by rw [ex]; simp [rus, bools, Value.oneCell'], (weakDel 0 rfl).trans (weakPull [3] rfl), by rw [rus_length, rus_length]; simp; omega, by rw [rus_length, rus_length]; simp [maxLen]; omega, ?_⟩
              rw [← rus_append]
              intro uv' huv
              obtain ⟨q5, q6, rfl⟩ := huv.cnt (by omega) (by rw [rus_length, Nat.mul_one])
              rw [show (ts ++ [x]).length = ts.length + 1 by simp] at *
              conv => whnf
              refine stC 2 rfl rfl (by first | (refine ⟨rfl, ?_⟩; repeat' (first | exact trivial | refine ⟨rfl, ?_⟩)) | simp [oneCells, Value.oneCell', setN]) ?_
              conv => whnf
              refine ldS 2 rfl rfl ?_
              conv => whnf
              conv => whnf
              repeat (refine ⟨_, wi (by omega), ?_⟩; conv => whnf)
              refine ⟨rfl, ?_⟩
              conv => whnf
              have := h1 (.slice q1 (ts.length + 1) q3) (.slice q2 (ts.length + 1) q4) (.slice q5 (ts.length + 1) q6) x (by rw [ex]) (by rw [ex]) (by rw [ex]) (by rw [ex]; exact hbw) ⟨htv, hbv, huv, hV.g⟩
              rw [show ((ts.length + 1 : Nat) : Int) - 1 = ts.length by omega]
              refine fin ?_ this
              rw [ex]
              exact weakPull [2, 2, 1, 0, 0] rfl
end Go.Proofs.Ytjgljgkfflojbaa.A
