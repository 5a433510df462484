/- dioramaref26: Odd. -/
import Derived.Test.YtjgljgkfflojbaaE4
namespace Go.Proofs.Ytjgljgkfflojbaa.A
open Go Go.RowKit
set_option linter.unusedVariables false
set_option linter.unusedSimpArgs false
set_option maxRecDepth 20000

def manyL (j : Nat) : List Int := (List.range j).map fun i : Nat => 20 + (i : Int)
theorem manyL_succ (j : Nat) : manyL (j + 1) = manyL j ++ [20 + (j : Int)] := by simp [manyL, List.range_succ]
theorem manyL_len (j : Nat) : (manyL j).length = j := by simp [manyL]
theorem manyL_bd {j : Nat} (hj : j ≤ 1000) : ∀ x ∈ manyL j, I64 x := fun x hx => by
  obtain ⟨i, hi, rfl⟩ := List.mem_map.1 hx
  rw [List.mem_range] at hi
  omega
theorem fitA {l : List Int} {n : Int} (h : ∀ x ∈ l, I64 x) (hn : I64 n) : ∀ x ∈ l ++ [n], I64 x := fun x hx => by
  rcases List.mem_append.1 hx with h' | h'
  · exact h x h'
  · rw [List.mem_singleton.1 h']; exact hn
set_option maxHeartbeats 2000000 in
theorem c_Odd26 (x : AV) (how by' : Int) (hh : I64 how) (hy : I64 by') (K : List Atom) (H : Hp) (hK : ∀ a ∈ K, a ∈ H.L) (hf : IntsAt ⟨H.M, K⟩ x.fv x.a.f) (hp : IntsAt ⟨H.M, K⟩ x.pv x.a.p) (hfl : x.a.f.length ≤ 1000) (hpl : x.a.p.length ≤ 1000) (R : Ending → Hp → Prop)
    (hR : ∀ y N, IntsAt ⟨H.M, N ++ K⟩ y.fv y.a.f → IntsAt ⟨H.M, N ++ K⟩ y.pv y.a.p → R (.returned (av y)) ⟨H.M, N ++ H.L⟩) : ACalls Try.prog 22 [av x, .int .i64 how, .int .i64 by'] H R := by
  obtain ⟨pf, cf, ef, _⟩ := hf.open
  obtain ⟨pp, cp, ep, _⟩ := hp.open
  obtain ⟨fv, pv, a⟩ := x
  simp only at ef ep hf hp hfl hpl
  subst ef ep
  have hb12 := around_bd by' 12 (by omega)
  have hb5 := around_bd how 5 (by omega)
  have hb4 := around_bd by' 4 (by omega)
  have hb3 := around_bd by' 3 (by omega)
  have hfK : ∀ N, IntsAt ⟨H.M, N ++ K⟩ (.slice pf a.f.length cf) a.f := fun N => hf.mono (hle_pre N K)
  have hpK : ∀ N, IntsAt ⟨H.M, N ++ K⟩ (.slice pp a.p.length cp) a.p := fun N => hp.mono (hle_pre N K)
  refine acalls_code hT Try.func22 rfl rfl ?_
  conv => whnf
  intro g3
  conv => whnf
  intro g6
  conv => whnf
  refine c_Around by' 12 hy (by omega) _ _ ?_
  conv => whnf
  repeat (refine ⟨_, wi (by omega), ?_⟩; conv => whnf)
  refine c_Around how 5 hh (by omega) _ _ ?_
  generalize around how 5 = w at *
  have hn : I64 (around by' 12 - 2) := by omega
  generalize around by' 12 - 2 = n at *
  conv => whnf
  refine ifC_dec (fun h0 => ?_) (fun h0 => ?_)
  · conv => whnf
    intro q
    conv => whnf
    refine c_Around by' 4 hy (by omega) _ _ ?_
    obtain ⟨_, _, e, hc⟩ := intsAt (H := ⟨H.M, .row (.slice (some ⟨q, 0, none⟩) 4 4) 3 1 (ints [n, -1, 65535, 65536]) :: .cells g6 42 [.int .i64 0, .int .i64 0, .slice none 0 0, .slice none 0 0] :: .cells g3 42 [.int .i64 a.k, .int .i64 a.n, .slice pf a.f.length cf, .slice pp a.p.length cp] :: H.L⟩) (l := [n, -1, 65535, 65536]) (readsNew rfl rfl)
    cases e
    obtain ⟨g', o', e', hcell⟩ := hc (around by' 4) (by omega) (by simp; omega)
    cases e'
    conv => whnf
    refine ⟨q, 0, rfl, by omega, ?_⟩
    conv => whnf
    refine ⟨_, hcell, ?_⟩
    conv => whnf
    refine stC 2 rfl rfl (by first | (refine ⟨rfl, ?_⟩; repeat' (first | exact trivial | refine ⟨rfl, ?_⟩)) | simp [oneCells, Value.oneCell', setN]) ?_
    conv => whnf
    refine ldA 2 rfl rfl ?_
    conv => whnf
    refine stC 1 rfl rfl (by first | (refine ⟨rfl, ?_⟩; repeat' (first | exact trivial | refine ⟨rfl, ?_⟩)) | simp [oneCells, Value.oneCell', setN]) ?_
    conv => whnf
    refine ⟨rfl, ?_⟩
    conv => whnf
    refine ldA 1 rfl rfl ?_
    conv => whnf
    exact fin (Weak.refl _) (hR ⟨.slice pf a.f.length cf, .slice pp a.p.length cp, ⟨a.k, geti [n, -1, 65535, 65536] (around by' 4), a.f, a.p⟩⟩ [_, _, _] (hfK _) (hpK _))
  · conv => whnf
    refine ifC_dec (fun h1 => ?_) (fun h1 => ?_)
    · conv => whnf
      intro q
      conv => whnf
      refine ldS 2 rfl rfl ?_
      conv => whnf
      refine ⟨H.M, _, [], ints a.f, hf.reads.mono (hle_sub fun b hb => by simp [hK b hb]), ints_one _, Weak.refl _, by rw [ints_length]; simp; omega, by rw [ints_length]; simp [maxLen]; omega, fun v' hv' => ?_⟩
      rw [List.nil_append] at *
      obtain ⟨a1, a2, a3, rfl⟩ := hv'.slice
      conv => whnf
      intro q2
      conv => whnf
      refine ⟨H.M, _, ints a.f, ints [n], readsNew rfl rfl, ints_one _, weakPull [1] rfl, by rw [ints_length, ints_length]; simp; omega, by rw [ints_length, ints_length]; simp [maxLen]; omega, fun v2 hv2 => ?_⟩
      rw [← ints_append] at *
      obtain ⟨b1, b2, b3, rfl⟩ := hv2.slice
      conv => whnf
      refine stC 3 rfl rfl (by first | (refine ⟨rfl, ?_⟩; repeat' (first | exact trivial | refine ⟨rfl, ?_⟩)) | simp [oneCells, Value.oneCell', setN]) ?_
      conv => whnf
      refine ldA 3 rfl rfl ?_
      conv => whnf
      refine stC 2 rfl rfl (by first | (refine ⟨rfl, ?_⟩; repeat' (first | exact trivial | refine ⟨rfl, ?_⟩)) | simp [oneCells, Value.oneCell', setN]) ?_
      conv => whnf
      refine ⟨rfl, ?_⟩
      conv => whnf
      refine ldA 2 rfl rfl ?_
      conv => whnf
      exact fin (Weak.refl _) (hR ⟨.slice b1 b2 b3, .slice pp a.p.length cp, ⟨a.k, a.n, a.f ++ [n], a.p⟩⟩ [_, _, _, _] ⟨readsRow (e := 3) List.mem_cons_self hv2, fitA hf.fit hn, by simp; omega⟩ (hpK _))
    · conv => whnf
      refine ifC_dec (fun h2 => ?_) (fun h2 => ?_)
      · conv => whnf
        intro q
        conv => whnf
        refine ldS 2 rfl rfl ?_
        conv => whnf
        refine ⟨H.M, _, [], ints a.p, hp.reads.mono (hle_sub fun b hb => by simp [hK b hb]), ints_one _, Weak.refl _, by rw [ints_length]; simp; omega, by rw [ints_length]; simp [maxLen]; omega, fun v' hv' => ?_⟩
        rw [List.nil_append] at *
        obtain ⟨a1, a2, a3, rfl⟩ := hv'.slice
        conv => whnf
        intro q2
        conv => whnf
        refine c_Around by' 3 hy (by omega) _ _ ?_
        obtain ⟨_, _, e, hc⟩ := intsAt (H := ⟨H.M, .row (.slice (some ⟨q2, 0, none⟩) 3 3) 3 1 (ints [n, 65535, 65536]) :: .row (.slice a1 a2 a3) 3 1 (ints a.p) :: .cells g6 42 [.int .i64 0, .int .i64 0, .slice none 0 0, .slice none 0 0] :: .cells g3 42 [.int .i64 a.k, .int .i64 a.n, .slice pf a.f.length cf, .slice pp a.p.length cp] :: H.L⟩) (l := [n, 65535, 65536]) (readsNew rfl rfl)
        cases e
        obtain ⟨g', o', e', hcell⟩ := hc (around by' 3) (by omega) (by simp; omega)
        cases e'
        have hz : I64 (geti [n, 65535, 65536] (around by' 3)) := by
          have := geti_mem (l := [n, 65535, 65536]) (i := around by' 3) (by omega) (by simp; omega)
          simp at this
          omega
        generalize geti [n, 65535, 65536] (around by' 3) = z at *
        conv => whnf
        refine ⟨q2, 0, rfl, by omega, ?_⟩
        conv => whnf
        refine ⟨_, hcell, ?_⟩
        conv => whnf
        intro q3
        conv => whnf
        refine ⟨H.M, _, ints a.p, ints [z], readsNew rfl rfl, ints_one _, weakPull [2] rfl, by rw [ints_length, ints_length]; simp; omega, by rw [ints_length, ints_length]; simp [maxLen]; omega, fun v2 hv2 => ?_⟩
        rw [← ints_append] at *
        obtain ⟨b1, b2, b3, rfl⟩ := hv2.slice
        conv => whnf
        refine stC 4 rfl rfl (by first | (refine ⟨rfl, ?_⟩; repeat' (first | exact trivial | refine ⟨rfl, ?_⟩)) | simp [oneCells, Value.oneCell', setN]) ?_
        conv => whnf
        refine ldA 4 rfl rfl ?_
        conv => whnf
        refine stC 3 rfl rfl (by first | (refine ⟨rfl, ?_⟩; repeat' (first | exact trivial | refine ⟨rfl, ?_⟩)) | simp [oneCells, Value.oneCell', setN]) ?_
        conv => whnf
        refine ⟨rfl, ?_⟩
        conv => whnf
        refine ldA 3 rfl rfl ?_
        conv => whnf
        exact fin (Weak.refl _) (hR ⟨.slice pf a.f.length cf, .slice b1 b2 b3, ⟨a.k, a.n, a.f, a.p ++ [z]⟩⟩ [_, _, _, _, _] (hfK _) ⟨readsRow (e := 3) List.mem_cons_self hv2, fitA hp.fit hz, by simp; omega⟩)
      · conv => whnf
        refine ifC_dec (fun h3 => ?_) (fun h3 => ?_)
        · obtain ⟨r3, er3⟩ : ∃ r3 : Nat, around by' 3 = r3 := ⟨(around by' 3).toNat, by omega⟩
          conv => whnf
          refine awp_loopL hT 74 [2, 3, 6, 8, 9] (fun m vs H' => ∃ (j : Nat) (s : Value), vs = [.int .i64 by', ptr g3, ptr g6, s, .int .i64 j] ∧ m + j = 511 + r3 ∧ RowVal s 1 (ints (manyL j)) ∧
            H' = ⟨H.M, .row s 3 1 (ints (manyL j)) :: .cells g6 42 [.int .i64 0, .int .i64 0, .slice none 0 0, .slice none 0 0] :: .cells g3 42 [.int .i64 a.k, .int .i64 a.n, .slice pf a.f.length cf, .slice pp a.p.length cp] :: H.L⟩) (511 + r3) rfl rfl (weakNil _ 3 1) ⟨0, .slice none 0 0, rfl, rfl, .inl ⟨rfl, rfl⟩, rfl⟩ ?_
          rintro m u vs H' ⟨j, s, rfl, hm, hs, rfl⟩
          obtain ⟨s1, s2, s3, rfl⟩ := hs.slice
          have hml := manyL_len j
          conv => whnf
          refine c_Around by' 3 hy (by omega) _ _ ?_
          rw [er3] at hb3 ⊢
          conv => whnf
          repeat (refine ⟨_, wi (by omega), ?_⟩; conv => whnf)
          refine ifC_dec (fun h4 => ?_) (fun h4 => ?_)
          · conv => whnf
            repeat (refine ⟨_, wi (by omega), ?_⟩; conv => whnf)
            intro q
            conv => whnf
            refine ⟨H.M, _, ints (manyL j), ints [20 + (j : Int)], readsNew rfl rfl, ints_one _, weakDel 0 rfl, by rw [ints_length, ints_length]; simp; omega, by rw [ints_length, ints_length]; simp [maxLen]; omega, fun v2 hv2 => ?_⟩
            rw [← ints_append, ← manyL_succ] at *
            conv => whnf
            repeat (refine ⟨_, wi (by omega), ?_⟩; conv => whnf)
            exact ⟨rfl, rfl, m - 1, _, by omega, Weak.refl _, j + 1, v2, rfl, by omega, hv2, rfl⟩
          · conv => whnf
            refine stC 2 rfl rfl (by first | (refine ⟨rfl, ?_⟩; repeat' (first | exact trivial | refine ⟨rfl, ?_⟩)) | simp [oneCells, Value.oneCell', setN]) ?_
            conv => whnf
            refine ldA 2 rfl rfl ?_
            conv => whnf
            refine stC 1 rfl rfl (by first | (refine ⟨rfl, ?_⟩; repeat' (first | exact trivial | refine ⟨rfl, ?_⟩)) | simp [oneCells, Value.oneCell', setN]) ?_
            conv => whnf
            refine ⟨rfl, ?_⟩
            conv => whnf
            refine ldA 1 rfl rfl ?_
            conv => whnf
            exact fin (Weak.refl _) (hR ⟨.slice pf a.f.length cf, .slice s1 s2 s3, ⟨a.k, a.n, a.f, manyL j⟩⟩ [_, _, _] (hfK _) ⟨readsRow (e := 3) List.mem_cons_self hs, manyL_bd (by omega), by show ((manyL j).length : Int) ≤ _; omega⟩)
        · conv => whnf
          refine c_Around by' 3 hy (by omega) _ _ ?_
          conv => whnf
          refine stC 1 rfl rfl (by first | (refine ⟨rfl, ?_⟩; repeat' (first | exact trivial | refine ⟨rfl, ?_⟩)) | simp [oneCells, Value.oneCell', setN]) ?_
          conv => whnf
          refine ldA 1 rfl rfl ?_
          conv => whnf
          refine stC 0 rfl rfl (by first | (refine ⟨rfl, ?_⟩; repeat' (first | exact trivial | refine ⟨rfl, ?_⟩)) | simp [oneCells, Value.oneCell', setN]) ?_
          conv => whnf
          refine ⟨rfl, ?_⟩
          conv => whnf
          refine ldA 0 rfl rfl ?_
          conv => whnf
          exact fin (Weak.refl _) (hR ⟨.slice pf a.f.length cf, .slice pp a.p.length cp, ⟨around by' 3, a.n, a.f, a.p⟩⟩ [_, _] (hfK _) (hpK _))
end Go.Proofs.Ytjgljgkfflojbaa.A
