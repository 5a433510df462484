/- consent: Make. -/
import Derived.Test.YtjgljgkfflojbaaD3
namespace Go.Proofs.Ytjgljgkfflojbaa.A
open Go Go.RowKit
set_option linter.unusedVariables false
set_option linter.unusedSimpArgs false
set_option maxRecDepth 20000

theorem mLook_gmap (x : Int) : ∀ gone : List Int, (mLook (gmap gone) x).getD (.bool false) = .bool (decide (x ∈ gone))
  | [] => rfl
  | a :: l => by
    have ih := mLook_gmap x l
    unfold mLook gmap at *
    rw [List.map_cons, List.find?_cons]
    by_cases h : a = x
    · subst h; simp
    · have h' : ¬ x = a := fun e => h e.symm
      simp only [h, decide_false]
      rw [ih]
      congr 1
      simp [h']
theorem cbIn {M : Nat → Option Obj} {L : List Atom} {g : Nat} {tv : Value} {r : Nat} {ts : List TV} {gone : List Int} (ht : RowVal tv 4 (tvs ts)) (hl : ∀ x ∈ ts, ThAt ⟨M, L⟩ x) (hL : ∀ a ∈ cbA g tv r ts gone, a ∈ L) : CbAt ⟨M, L⟩ g tv r ts gone :=
  ⟨fun j v hj => .inr ⟨.cells g 76 [tv, .map (some r)], hL _ (by simp [cbA]), rfl, by simpa using hj⟩, readsRow (e := 82) (hL _ (by simp [cbA])) ht, .inr (hL _ (by simp [cbA])), hl⟩

theorem c_Make1 (x : Int) (gb g : Nat) (tv : Value) (r : Nat) (ts : List TV) (gone : List Int) (H : Hp) (hc : H.cell gb 0 (ptr g)) (hb : CbAt H g tv r ts gone) (R : Ending → Hp → Prop)
    (hR : R (.returned (.bool (decide (x ∈ gone)))) H) : ACalls Try.prog 32 [.int .i64 x, ptr gb] H R := by
  refine acalls_code hT Try.func32 rfl rfl ?_
  conv => whnf
  refine ⟨_, hc, ?_⟩
  conv => whnf
  refine ⟨_, hb.h 1 _ rfl, ?_⟩
  conv => whnf
  refine ⟨_, hb.m, ?_⟩
  rw [mLook_gmap]
  conv => whnf
  refine ⟨rfl, ?_⟩
  conv => whnf
  exact fin (Weak.refl _) hR
def thR (x : TV) : List Atom := [.row x.fv 3 1 (ints x.t.f), .row x.pv 3 1 (ints x.t.p), .row x.bv 3 1 (ints x.t.b)]
structure ThV (x : TV) : Prop where
  f : RowVal x.fv 1 (ints x.t.f)
  p : RowVal x.pv 1 (ints x.t.p)
  b : RowVal x.bv 1 (ints x.t.b)
theorem ThV.at {x : TV} (h : ThV x) {M : Nat → Option Obj} {L : List Atom} (hL : ∀ a ∈ thR x, a ∈ L) : ThAt ⟨M, L⟩ x :=
  ⟨readsRow (e := 3) (hL _ (by simp [thR])) h.f, readsRow (e := 3) (hL _ (by simp [thR])) h.p, readsRow (e := 3) (hL _ (by simp [thR])) h.b⟩
theorem riseF_len {n : Nat} {l : List Int} (h : riseF (-1) n l = true) : l.length ≤ n := by
  obtain ⟨h1, h2⟩ := riseF_iff.1 h
  exact inc_len h1 fun x hx => by have := h2 x hx; omega
structure okTs (ts : List TV) : Prop where
  n : ts.length ≤ 256
  b : ∀ x ∈ ts, x.t.b.length ≤ 65536
  bb : ∀ x ∈ ts, ∀ y ∈ x.t.b, 0 ≤ y ∧ y < 65536

set_option maxHeartbeats 2000000 in
theorem c_Make (g : Nat) (tv : Value) (r : Nat) (ts : List TV) (gone : List Int) (fv pv : Value) (f p : List Int) (M : Nat → Option Obj) (L : List Atom) (ht : RowVal tv 4 (tvs ts)) (hl : ∀ x ∈ ts, ThAt ⟨M, L⟩ x) (ho : okTs ts)
    (hf : IntsAt ⟨M, L⟩ fv f) (hp : IntsAt ⟨M, L⟩ pv p) (R : Ending → Hp → Prop)
    (h0 : (mkS (stOf ts gone) f p).2.2 ≠ 0 → R (.returned (.tuple #[.int .i64 0, .int .i64 (mkS (stOf ts gone) f p).2.2])) ⟨M, cbA g tv r ts gone ++ L⟩)
    (h1 : (mkS (stOf ts gone) f p).2.2 = 0 → ∀ tv' x, x.t = ⟨f, p, norm (baseL (stOf ts gone) f p), true⟩ → ThV x → RowVal tv' 4 (tvs (ts ++ [x])) → R (.returned (.tuple #[.int .i64 ts.length, .int .i64 0])) ⟨M, cbA g tv' r (ts ++ [x]) gone ++ (thR x ++ L)⟩) :
    ACalls Try.prog 11 [ptr g, .agg #[fv, pv]] ⟨M, cbA g tv r ts gone ++ L⟩ R := by
  obtain ⟨pf, cf, rfl, hfc, hcf⟩ := hf.open
  obtain ⟨pp, cp, rfl, hpc, hcp⟩ := hp.open
  obtain ⟨t1, t2, t3, rfl⟩ := ht.slice
  have hn := ho.n
  have hsn : (stOf ts gone).ts.length = ts.length := by simp [stOf]
  have out : ∀ e, e ≠ 0 → (mkS (stOf ts gone) f p).2.2 = e → R (.returned (.tuple #[.int .i64 0, .int .i64 e])) ⟨M, cbA g (.slice t1 t2 t3) r ts gone ++ L⟩ := fun e he h => by rw [← h]; exact h0 (by rw [h]; exact he)
  have ht2 : t2 = ts.length := by
    rcases ht with ⟨h, h'⟩ | ⟨g, o, n, c, h, hlen, _⟩
    · cases h
      have h4 : ts.length * 4 = 0 := by rw [← tvs_length, h']; rfl
      omega
    · cases h
      rw [tvs_length] at hlen
      omega
  subst ht2
  refine acalls_code hT Try.func11 rfl rfl ?_
  conv => whnf
  intro g2
  conv => whnf
  intro g3
  conv => whnf
  have hcb : ∀ L', (∀ a ∈ cbA g (.slice t1 ts.length t3) r ts gone ++ L, a ∈ L') → CbAt ⟨M, L'⟩ g (.slice t1 ts.length t3) r ts gone := fun L' h => cbIn ht (fun x hx => (hl x hx).mono (hle_sub fun a ha => h a (List.mem_append_right _ ha))) fun a ha => h a (List.mem_append_left _ ha)
  refine ldS 1 rfl rfl ?_
  conv => whnf
  conv => whnf
  refine ldS 1 rfl rfl ?_
  conv => whnf
  refine ⟨_, (hcb _ (fun a ha => by simp at ha; simp [ha])).h 0 _ rfl, ?_⟩
  conv => whnf
  unfold mkS at out h0 h1
  rw [hsn] at out h0 h1
  refine ifC_dec (fun c1 => ?_) (fun c1 => ?_)
  · conv => whnf
    refine ⟨rfl, ?_⟩
    conv => whnf
    exact fin (weakK 2 rfl) (out 4 (by omega) (by rw [if_pos (by omega)]))
  · conv => whnf
    refine ldS 0 rfl rfl ?_
    conv => whnf
    refine ifC_dec (fun c2 => ?_) (fun c2 => ?_)
    · conv => whnf
      refine ⟨rfl, ?_⟩
      conv => whnf
      exact fin (weakK 2 rfl) (out 4 (by omega) (by rw [if_pos (by omega)]))
    · rw [if_neg (by omega)] at out h0 h1
      conv => whnf
      refine awp_drawQ hT hM 16 (by kernel_rfl) ?_
      conv => whnf
      refine ldS 0 rfl rfl ?_
      conv => whnf
      refine ldS 1 rfl rfl ?_
      conv => whnf
      refine ⟨_, (hcb _ (fun a ha => by simp at ha; simp [ha])).h 0 _ rfl, ?_⟩
      conv => whnf
      refine c_rising _ f ts.length _ (hf.mono (hle_sub fun a ha => by simp [ha])) _ ⟨Weak.refl _, ?_⟩
      cases hrf : riseF (-1) ts.length f with
      | false =>
        conv => whnf
        refine ⟨rfl, ?_⟩
        conv => whnf
        exact fin (weakK 2 rfl) (out 1 (by omega) (by rw [if_pos (.inl hrf)]))
      | true =>
        conv => whnf
        refine ldS 0 rfl rfl ?_
        conv => whnf
        refine c_rising _ p 65536 _ (hp.mono (hle_sub fun a ha => by simp [ha])) _ ⟨Weak.refl _, ?_⟩
        cases hrp : riseF (-1) 65536 p with
        | false =>
          conv => whnf
          refine ⟨rfl, ?_⟩
          conv => whnf
          exact fin (weakK 2 rfl) (out 1 (by omega) (by rw [if_pos (.inr hrp)]))
        | true =>
          rw [if_neg (by rw [hrf, hrp]; simp)] at out h0 h1
          have hinf := fun x hx => (riseF_iff.1 hrf).2 x hx
          conv => whnf
          refine ldS 0 rfl rfl ?_
          conv => whnf
          refine c_ContainsFuncI _ p _ (hp.mono (hle_sub fun a ha => by simp [ha])) 32 #[ptr g2] (fun x => decide (x ∈ gone)) (fun x hx R' hR' => c_Make1 x g2 g _ r ts gone _ (cellOwn (List.mem_cons_of_mem _ List.mem_cons_self) rfl) (hcb _ (fun a ha => by simp at ha; simp [ha])) R' hR') _ ?_
          cases hg : p.any (fun x => decide (x ∈ gone)) with
          | true =>
            conv => whnf
            refine ⟨rfl, ?_⟩
            conv => whnf
            exact fin (weakK 2 rfl) (out 24 (by omega) (by rw [if_pos (by exact hg)]))
          | false =>
            rw [if_neg (by show ¬ (p.any fun x => decide (x ∈ gone)) = true; rw [hg]; simp)] at out h0 h1
            conv => whnf
            refine ldS 1 rfl rfl ?_
            conv => whnf
            refine ldS 0 rfl rfl ?_
            conv => whnf
            refine c_stale g _ r ts gone _ f _ (hcb _ (fun a ha => by simp at ha; simp [ha])) (hf.mono (hle_sub fun a ha => by simp [ha])) (fun x hx => by have := hinf x hx; omega) _ ?_
            cases hst : staleS (stOf ts gone) f with
            | true =>
              conv => whnf
              refine ⟨rfl, ?_⟩
              conv => whnf
              exact fin (weakK 2 rfl) (out 17 (by omega) (by rw [if_pos hst]))
            | false =>
              rw [if_neg (by rw [hst]; simp)] at out h0 h1
              clear out h0
              have h1 := h1 rfl
              conv => whnf
              refine awp_draw hT hM 7 (List.range 7) (by kernel_rfl) M _ [] (by rw [List.append_nil]; exact Weak.refl _) ?_
              conv => whnf
              refine ldS 0 rfl rfl ?_
              conv => whnf
              refine c_CloneI _ (ints f) _ ((hf.mono (hle_sub fun a ha => by simp [ha])).reads) (ints_one f) (by rw [ints_length]; have := riseF_len hrf; omega) _ ?_
              intro fv' hfv
              obtain ⟨f1, f2, f3, rfl⟩ := hfv.slice
              refine ⟨_, _ :: _, weakMid, fun _ _ h => h, ?_⟩
              conv => whnf
              refine ldS 0 rfl rfl ?_
              conv => whnf
              refine c_CloneI _ (ints p) _ ((hp.mono (hle_sub fun a ha => by simp [ha])).reads) (ints_one p) (by rw [ints_length]; omega) _ ?_
              intro pv' hpv
              obtain ⟨p1, p2, p3, rfl⟩ := hpv.slice
              refine ⟨_, _ :: _, weakMid, fun _ _ h => h, ?_⟩
              conv => whnf
              refine ⟨_, Weak.perm List.perm_append_comm, ?_⟩
              conv => whnf
              refine stC 2 rfl rfl (by first | (refine ⟨rfl, ?_⟩; repeat' (first | exact trivial | refine ⟨rfl, ?_⟩)) | simp [oneCells, Value.oneCell', setN]) ?_
              conv => whnf
              have hin0 : ∀ a ∈ L, a ∈ (.cells g3 31 [.slice f1 f2 f3, .slice p1 p2 p3] :: .cells g2 23 [ptr g] :: .cells g 76 [.slice t1 ts.length t3, .map (some r)] :: .row (.slice p1 p2 p3) 3 1 (ints p) :: .row (.slice f1 f2 f3) 3 1 (ints f) :: .obj r (imapObj (gmap gone)) :: L) := fun a ha => by simp [ha]
              refine awp_draw hT hM 14 (List.range 14) (by kernel_rfl) M (.cells g3 31 [.slice f1 f2 f3, .slice p1 p2 p3] :: .cells g2 23 [ptr g] :: .cells g 76 [.slice t1 ts.length t3, .map (some r)] :: .row (.slice p1 p2 p3) 3 1 (ints p) :: .row (.slice f1 f2 f3) 3 1 (ints f) :: .obj r (imapObj (gmap gone)) :: L) [.row (.slice t1 ts.length t3) 82 4 (tvs ts)]
                ((weakPull [5, 2, 2, 2, 0, 0, 0] (L' := .row (.slice t1 ts.length t3) 82 4 (tvs ts) :: (.cells g3 31 [.slice f1 f2 f3, .slice p1 p2 p3] :: .cells g2 23 [ptr g] :: .cells g 76 [.slice t1 ts.length t3, .map (some r)] :: .row (.slice p1 p2 p3) 3 1 (ints p) :: .row (.slice f1 f2 f3) 3 1 (ints f) :: .obj r (imapObj (gmap gone)) :: L)) rfl).trans (Weak.perm (List.perm_append_comm (l₁ := [_])))) ?_
              conv => whnf
              refine ldS 1 rfl rfl ?_
              conv => whnf
              refine ldS 1 rfl rfl ?_
              conv => whnf
              refine ldS 2 rfl rfl ?_
              conv => whnf
              refine ldA 0 rfl rfl ?_
              conv => whnf
              refine ldS 1 rfl rfl ?_
              conv => whnf
              refine ldA 0 rfl rfl ?_
              conv => whnf
              have hpl : p.length ≤ 512 := by omega
              have hfl := riseF_len hrf
              refine c_base g (.slice t1 ts.length t3) r ts gone _ _ f p _ (hcb _ (fun a ha => by simp [cbA] at ha; simp; rcases ha with h | h | h | h <;> simp [h])) ⟨readsRow (e := 3) (by simp) hfv, hf.fit, hf.len⟩ (readsRow (e := 3) (by simp) hpv) (by omega) hpl (fun x hx => by have := hinf x hx; omega) ho.b _ ?_
              intro bv hbv
              obtain ⟨b1, b2, b3, rfl⟩ := hbv.slice
              refine ⟨_, _ :: _, weakMid, fun _ _ h => h, ?_⟩
              conv => whnf
              intro gb
              conv => whnf
              obtain ⟨x, ex⟩ : ∃ x : TV, x = ⟨.slice f1 f2 f3, .slice p1 p2 p3, .slice b1 b2 b3, ⟨f, p, norm (baseL (stOf ts gone) f p), true⟩⟩ := ⟨_, rfl⟩
              refine ⟨M, _ ++ [.row (.slice b1 b2 b3) 3 1 (ints (norm (baseL (stOf ts gone) f p)))], tvs ts, tvs [x], readsRow (e := 82) (v := .slice (some ⟨gb, 0, none⟩) 1 1) (by rw [ex]; exact List.mem_append_right _ List.mem_cons_self) (rowNew (by rw [tvs_length]; rfl) (by omega)), by rw [ex]; simp [tvs, tvc, Value.oneCell'],
                (Weak.perm List.perm_append_comm).trans ((weakPull [2] rfl).trans ((weakDel 1 rfl).trans (Weak.perm (List.Perm.cons _ (List.perm_append_comm (l₁ := [_])))))), by rw [tvs_length, tvs_length]; simp; omega, by rw [tvs_length, tvs_length]; simp [maxLen]; omega, ?_⟩
              rw [← tvs_append]
              intro tv' htv
              obtain ⟨q1, q2, q3, rfl⟩ := htv.slice
              refine ⟨_, _ :: _, weakMid, fun _ _ h => h, ?_⟩
              conv => whnf
              refine ⟨_, Weak.perm List.perm_append_comm, ?_⟩
              conv => whnf
              refine stC 4 rfl rfl (by first | (refine ⟨rfl, ?_⟩; repeat' (first | exact trivial | refine ⟨rfl, ?_⟩)) | simp [oneCells, Value.oneCell', setN]) ?_
              conv => whnf
              refine ldS 3 rfl rfl ?_
              conv => whnf
              refine ldS 4 rfl rfl ?_
              conv => whnf
              have hq2 : q2 = ts.length + 1 := by
                rcases htv with ⟨h, h'⟩ | ⟨g, o, n, c, h, hlen, _⟩
                · have h4 : (ts ++ [x]).length * 4 = 0 := by rw [← tvs_length, h']; rfl
                  simp at h4
                · cases h
                  rw [tvs_length] at hlen
                  simp at hlen
                  omega
              subst hq2
              conv => whnf
              repeat (refine ⟨_, wi (by omega), ?_⟩; conv => whnf)
              refine ⟨rfl, ?_⟩
              conv => whnf
              have := h1 _ x (by rw [ex]) (by rw [ex]; exact ⟨hfv, hpv, hbv⟩) htv
              rw [show ((ts.length + 1 : Nat) : Int) - 1 = ts.length by omega]
              refine fin ?_ this
              rw [ex]
              exact (weakPull [4, 0, 5, 4, 3, 0] rfl).trans (weakSkip 6 2 rfl)
end Go.Proofs.Ytjgljgkfflojbaa.A
