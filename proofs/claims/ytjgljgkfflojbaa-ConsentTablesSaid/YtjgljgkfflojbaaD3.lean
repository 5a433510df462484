/- consent: base, Make. -/
import Derived.Test.YtjgljgkfflojbaaD2
namespace Go.Proofs.Ytjgljgkfflojbaa.A
open Go Go.RowKit
set_option linter.unusedVariables false
set_option linter.unusedSimpArgs false
set_option maxRecDepth 20000

theorem c_base1 (xv ov : Value) (acc b : List Int) (g : Nat) (M : Nat → Option Obj) (L : List Atom) (hx : Reads ⟨M, .cells g 22 [ov] :: .row ov 3 1 (ints acc) :: L⟩ xv 1 (ints b)) (hl : acc.length + b.length ≤ 1073741824) (R : Ending → Hp → Prop)
    (hR : ∀ v', RowVal v' 1 (ints (acc ++ b)) → R (.returned (.tuple #[])) ⟨M, .cells g 22 [v'] :: .row v' 3 1 (ints (acc ++ b)) :: L⟩) :
    ACalls Try.prog 53 [xv, ptr g] ⟨M, .cells g 22 [ov] :: .row ov 3 1 (ints acc) :: L⟩ R := by
  refine acalls_code hT Try.func53 rfl rfl ?_
  conv => whnf
  refine ldS 0 rfl rfl ?_
  conv => whnf
  refine ⟨M, .cells g 22 [ov] :: L, ints acc, ints b, hx, ints_one _, weakPull [1] rfl, by rw [ints_length, ints_length]; omega, by rw [ints_length, ints_length]; simp [maxLen]; omega, fun v' hv' => ?_⟩
  rw [← ints_append] at *
  obtain ⟨a1, a2, a3, rfl⟩ := hv'.slice
  conv => whnf
  refine stC 1 rfl rfl (by first | (refine ⟨rfl, ?_⟩; repeat' (first | exact trivial | refine ⟨rfl, ?_⟩)) | simp [oneCells, Value.oneCell', setN]) ?_
  conv => whnf
  refine ⟨rfl, ?_⟩
  conv => whnf
  exact fin (weakPull [1, 0] rfl) (hR _ hv')
theorem baseL_snoc (S : St) (f p : List Int) (i : Int) : baseL S (f ++ [i]) p = baseL S f p ++ (S.th i).b := by simp [baseL]
theorem baseL_len {S : St} {f p : List Int} (h : ∀ i ∈ f, (S.th i).b.length ≤ 65536) : (baseL S f p).length ≤ p.length + f.length * 65536 := by
  unfold baseL
  rw [List.length_append]
  have : (f.flatMap fun i => (S.th i).b).length ≤ f.length * 65536 := by
    induction f with
    | nil => simp
    | cons a f ih =>
      have h1 := h a List.mem_cons_self
      have h2 := ih fun i hi => h i (List.mem_cons_of_mem _ hi)
      rw [List.flatMap_cons, List.length_append, List.length_cons, Nat.add_mul]
      omega
  omega
theorem c_base (g : Nat) (tv : Value) (r : Nat) (ts : List TV) (gone : List Int) (fv pv : Value) (f p : List Int) (H : Hp) (hb : CbAt H g tv r ts gone) (hf : IntsAt H fv f) (hp : Reads H pv 1 (ints p))
    (hfl : f.length ≤ 256) (hpl : p.length ≤ 512) (hin : ∀ x ∈ f, 0 ≤ x ∧ x < ts.length) (hbl : ∀ x ∈ ts, x.t.b.length ≤ 65536) (R : Ending → Hp → Prop)
    (hR : ∀ v', RowVal v' 1 (ints (norm (baseL (stOf ts gone) f p))) → R (.returned v') ⟨H.M, .row v' 3 1 (ints (norm (baseL (stOf ts gone) f p))) :: H.L⟩) :
    ACalls Try.prog 35 [ptr g, .agg #[fv, pv]] H R := by
  obtain ⟨pf, cf, rfl, hfc, hcf⟩ := hf.open
  obtain ⟨pt, ct, rfl, hct⟩ := tvsAt hb.t
  have hth : ∀ i ∈ f, ((stOf ts gone).th i).b.length ≤ 65536 := fun i hi => by
    have := hin i hi
    obtain ⟨k, rfl⟩ : ∃ k : Nat, i = k := ⟨i.toNat, by omega⟩
    rw [th_at (show k < ts.length by omega)]
    exact hbl _ (List.getElem_mem _)
  have hlen : ∀ k, (baseL (stOf ts gone) (f.take k) p).length ≤ 512 + 256 * 65536 := fun k => by
    have := baseL_len (S := stOf ts gone) (f := f.take k) (p := p) fun i hi => hth i (List.mem_of_mem_take hi)
    have h2 : (f.take k).length ≤ 256 := by rw [List.length_take]; omega
    have h3 := Nat.mul_le_mul_right 65536 h2
    omega
  refine acalls_code hT Try.func35 rfl rfl ?_
  conv => whnf
  intro gx
  conv => whnf
  refine ldS 0 rfl rfl ?_
  conv => whnf
  refine c_CloneI pv _ _ (hp.mono (HLe.cons H _)) (ints_one p) (by rw [ints_length]; omega) _ ?_
  intro ov hov
  obtain ⟨o1, o2, o3, rfl⟩ := hov.slice
  conv => whnf
  intro g5
  conv => whnf
  refine stC 0 rfl rfl (by first | (refine ⟨rfl, ?_⟩; repeat' (first | exact trivial | refine ⟨rfl, ?_⟩)) | simp [oneCells, Value.oneCell', setN]) ?_
  conv => whnf
  refine ldS 2 rfl rfl ?_
  conv => whnf
  refine awp_loopL hT 35 [0, 5, 6, 14, 15, 16] (fun m vs H' => ∃ (k : Nat) (ov : Value), vs = [ptr g, ptr g5, .func (.func 53) #[] #[ptr g5], .slice pf f.length cf, .int .i64 f.length, .int .i64 k] ∧ m + k = f.length ∧ RowVal ov 1 (ints (baseL (stOf ts gone) (f.take k) p)) ∧
    H' = ⟨H.M, .cells g5 22 [ov] :: .row ov 3 1 (ints (baseL (stOf ts gone) (f.take k) p)) :: .cells gx 31 [.slice pf f.length cf, pv] :: H.L⟩) f.length rfl rfl (by simp [baseL]; exact Weak.refl _) ⟨0, _, rfl, rfl, by simpa [baseL] using hov, rfl⟩ ?_
  clear hov
  rintro m u vs H' ⟨k, ov, rfl, hk, hov, rfl⟩
  obtain ⟨o1, o2, o3, rfl⟩ := hov.slice
  conv => whnf
  refine ifC_dec (fun h1 => ?_) (fun h1 => ?_)
  · have hkl : k < f.length := by omega
    have htk : baseL (stOf ts gone) (f.take (k + 1)) p = baseL (stOf ts gone) (f.take k) p ++ ((stOf ts gone).th (geti f k)).b := by
      rw [List.take_succ_eq_append_getElem hkl, baseL_snoc, geti_at hkl]
    conv => whnf
    obtain ⟨gf, of', rfl, hcell⟩ := hcf k (by omega) (by omega)
    refine ⟨gf, of', rfl, by omega, ?_⟩
    conv => whnf
    refine ⟨_, HLe.cell (hle_sub fun a ha => by simp [ha]) hcell, ?_⟩
    conv => whnf
    have hle : HLe H ⟨H.M, .cells g5 22 [.slice o1 o2 o3] :: .row (.slice o1 o2 o3) 3 1 (ints (baseL (stOf ts gone) (f.take k) p)) :: .cells gx 31 [.slice (some ⟨gf, of', none⟩) f.length cf, pv] :: H.L⟩ := hle_sub fun a ha => by simp [ha]
    refine ⟨_, hb.h.mono hle 0 _ rfl, ?_⟩
    conv => whnf
    have hinx := hin _ (geti_mem (l := f) (i := (k : Int)) (by omega) (by omega))
    obtain ⟨j, hj⟩ : ∃ j : Nat, geti f k = j := ⟨(geti f k).toNat, by omega⟩
    rw [hj] at hinx htk
    rw [hj]
    have hjl : j < ts.length := by omega
    rw [th_at hjl] at htk
    obtain ⟨gt, ot, rfl, hce⟩ := hct j hjl
    refine ⟨gt, ot, rfl, by omega, ?_⟩
    conv => whnf
    refine ⟨_, hce.mono hle 2 _ rfl, ?_⟩
    conv => whnf
    have hlk := hlen (k + 1)
    rw [htk, List.length_append] at hlk
    refine c_base1 _ _ _ ts[j].t.b g5 H.M _ ((hb.l _ (List.getElem_mem hjl)).b.mono hle) (by omega) _ ?_
    intro v' hv'
    rw [← htk] at *
    conv => whnf
    repeat (refine ⟨_, wi (by omega), ?_⟩; conv => whnf)
    exact ⟨rfl, rfl, m - 1, _, by omega, Weak.refl _, k + 1, v', rfl, by omega, hv', rfl⟩
  · have hke : k = f.length := by omega
    subst hke
    have hlk := hlen f.length
    rw [List.take_length] at *
    conv => whnf
    refine ldS 0 rfl rfl ?_
    conv => whnf
    refine ACalls.weak (weakPull [1] rfl) (c_Sort _ _ H.M _ hov (by omega) _ fun hs => ?_)
    conv => whnf
    refine ldS 1 rfl rfl ?_
    conv => whnf
    refine c_Compact _ _ H.M _ hs (by rw [srt_length]; omega) _ ?_
    intro v' hv'
    conv => whnf
    refine ⟨rfl, ?_⟩
    conv => whnf
    exact fin (weakSkip 1 2 rfl) (hR v' hv')
end Go.Proofs.Ytjgljgkfflojbaa.A
