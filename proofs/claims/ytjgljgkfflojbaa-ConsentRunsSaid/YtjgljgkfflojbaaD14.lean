/- dioramaref26: Has, Both. -/
import Derived.Test.YtjgljgkfflojbaaD13
namespace Go.Proofs.Ytjgljgkfflojbaa.A
open Go Go.RowKit
set_option linter.unusedVariables false
set_option linter.unusedSimpArgs false
set_option maxRecDepth 20000

theorem c_Has26 (v : Value) (l : List Int) (x : Int) (H : Hp) (hv : IntsAt H v l) (R : Ending → Hp → Prop) (hR : R (.returned (.bool (decide (x ∈ l)))) H) : ACalls Try.prog 17 [v, .int .i64 x] H R := by
  obtain ⟨p, c, rfl, hlc, hc⟩ := hv.open
  have hb := hv.len
  refine acalls_code hT Try.func17 rfl rfl ?_
  conv => whnf
  refine awp_loopL hT 18 [0, 1, 5] (fun n vs H' => ∃ k : Nat, vs = [.slice p l.length c, .int .i64 x, .int .i64 k] ∧ n + k = l.length ∧ (l.take k).any (fun y => decide (y = x)) = false ∧ H' = H) l.length rfl rfl (Weak.refl _) ⟨0, rfl, rfl, rfl, rfl⟩ ?_
  rintro n u vs H' ⟨k, rfl, hk, ht, rfl⟩
  conv => whnf
  refine ifC_dec (fun h1 => ?_) (fun h1 => ?_)
  · conv => whnf
    obtain ⟨g, o, rfl, hcell⟩ := hc k (by omega) (by omega)
    refine ⟨g, o, rfl, by omega, ?_⟩
    conv => whnf
    refine ⟨_, hcell, ?_⟩
    conv => whnf
    have hkl : k < l.length := by omega
    refine ifC_dec (fun h2 => ?_) (fun h2 => ?_)
    · conv => whnf
      refine ⟨rfl, ?_⟩
      conv => whnf
      refine fin (Weak.refl _) ?_
      rw [decide_eq_true (show x ∈ l by rw [← h2]; exact geti_mem (by omega) (by omega))] at hR
      exact hR
    · conv => whnf
      repeat (refine ⟨_, wi (by omega), ?_⟩; conv => whnf)
      refine ⟨rfl, rfl, n - 1, _, by omega, Weak.refl _, k + 1, rfl, by omega, any_step hkl ht ?_, rfl⟩
      rw [← geti_at hkl]; exact decide_eq_false h2
  · conv => whnf
    refine ⟨rfl, ?_⟩
    conv => whnf
    refine fin (Weak.refl _) ?_
    have : k = l.length := by omega
    subst this
    rw [List.take_length] at ht
    rw [decide_eq_false (fun h => by have := List.any_eq_false.1 ht x h; simp at this)] at hR
    exact hR

/-- The least of the first i that are not in out; -1: there is none. -/
structure Least (all out : List Int) (i : Nat) (m : Int) : Prop where
  none : m < 0 → m = -1 ∧ ∀ x ∈ all.take i, x ∈ out
  some : 0 ≤ m → m ∈ all.take i ∧ m ∉ out ∧ ∀ x ∈ all.take i, x ∉ out → m ≤ x
theorem least_end {all out : List Int} {m : Int} {k : Nat} (h : Least all out all.length m) (ho : out = (norm all).take k) : (m < 0 → (norm all).length ≤ k) ∧ (0 ≤ m → ∃ hk : k < (norm all).length, (norm all)[k] = m) := by
  obtain ⟨hinc, hmem⟩ := norm_inc all
  have hnd := inc_nodup hinc
  refine ⟨fun hm => ?_, fun hm => ?_⟩
  · obtain ⟨_, h2⟩ := h.none hm
    rw [List.take_length] at h2
    rcases Nat.lt_or_ge k (norm all).length with hk | hk
    · have h3 := h2 _ ((hmem _).1 (List.getElem_mem hk))
      rw [ho] at h3
      obtain ⟨i, hi, e⟩ := List.getElem_of_mem h3
      rw [List.getElem_take] at e
      have := (List.getElem_inj hnd).1 e
      simp at hi
      omega
    · exact hk
  · obtain ⟨h1, h2, h3⟩ := h.some hm
    rw [List.take_length] at h1 h3
    obtain ⟨i, hi, e⟩ := List.getElem_of_mem ((hmem m).2 h1)
    have hik : k ≤ i := by
      rcases Nat.lt_or_ge i k with h | h
      · exact absurd (by rw [ho, ← e]; exact List.mem_iff_getElem.2 ⟨i, by simp; omega, by rw [List.getElem_take]⟩) h2
      · exact h
    have hk : k < (norm all).length := by omega
    refine ⟨hk, ?_⟩
    have hle := h3 _ ((hmem _).1 (List.getElem_mem hk)) (fun hm => by
      rw [ho] at hm
      obtain ⟨j, hj, e2⟩ := List.getElem_of_mem hm
      rw [List.getElem_take] at e2
      have := (List.getElem_inj hnd).1 e2
      simp at hj
      omega)
    rcases Nat.lt_or_eq_of_le hik with h | h
    · have := List.pairwise_iff_getElem.1 hinc k i hk hi h
      omega
    · subst h; exact e
section
variable {all out : List Int} {i : Nat} {m : Int}
theorem mem_take_succ (hi : i < all.length) (x : Int) : x ∈ all.take (i + 1) ↔ x ∈ all.take i ∨ x = all[i] := by
  rw [List.take_succ_eq_append_getElem hi, List.mem_append, List.mem_singleton]
theorem least_in (hi : i < all.length) (h : Least all out i m) (hx : all[i] ∈ out) : Least all out (i + 1) m := by
  refine ⟨fun hm => ⟨(h.none hm).1, fun x hx' => ?_⟩, fun hm => ⟨(mem_take_succ hi m).2 (.inl (h.some hm).1), (h.some hm).2.1, fun x hx' hno => ?_⟩⟩
  · rcases (mem_take_succ hi x).1 hx' with h' | h'
    · exact (h.none hm).2 x h'
    · rw [h']; exact hx
  · rcases (mem_take_succ hi x).1 hx' with h' | h'
    · exact (h.some hm).2.2 x h' hno
    · rw [h'] at hno; exact absurd hx hno
theorem least_new (hi : i < all.length) (h : Least all out i m) (hx : all[i] ∉ out) (hm : m < 0 ∨ all[i] < m) (h0 : 0 ≤ all[i]) : Least all out (i + 1) all[i] := by
  refine ⟨fun hm => absurd hm (by omega), fun _ => ⟨(mem_take_succ hi _).2 (.inr rfl), hx, fun x hx' hno => ?_⟩⟩
  rcases (mem_take_succ hi x).1 hx' with h' | h'
  · rcases Int.lt_or_le m 0 with hneg | hpos
    · exact absurd ((h.none hneg).2 x h') hno
    · have := (h.some hpos).2.2 x h' hno; omega
  · rw [h']; exact Int.le_refl _
theorem least_keep (hi : i < all.length) (h : Least all out i m) (hm : ¬ all[i] < m) (h0 : 0 ≤ m) : Least all out (i + 1) m := by
  refine ⟨fun hm => absurd hm (by omega), fun _ => ⟨(mem_take_succ hi m).2 (.inl (h.some h0).1), (h.some h0).2.1, fun x hx' hno => ?_⟩⟩
  rcases (mem_take_succ hi x).1 hx' with h' | h'
  · exact (h.some h0).2.2 x h' hno
  · rw [h']; omega
end
set_option maxHeartbeats 2000000 in
theorem c_Both (v v' : Value) (a b : List Int) (H : Hp) (hv : IntsAt H v a) (hv' : IntsAt H v' b) (hn : ∀ x ∈ a ++ b, 0 ≤ x ∧ x ≤ 4611686018427387904) (hl : a.length + b.length ≤ 1073741824) (R : Ending → Hp → Prop)
    (hR : ∀ w, RowVal w 1 (ints (norm (a ++ b))) → R (.returned w) ⟨H.M, .row w 3 1 (ints (norm (a ++ b))) :: H.L⟩) : ACalls Try.prog 18 [v, v'] H R := by
  refine acalls_code hT Try.func18 rfl rfl ?_
  conv => whnf
  refine ⟨H.M, H.L, [], ints a, hv.reads, ints_one _, weakNil H 3 1, by rw [ints_length]; simp; omega, by rw [ints_length]; simp [maxLen]; omega, fun w1 hw1 => ?_⟩
  rw [List.nil_append] at *
  obtain ⟨w11, w12, w13, rfl⟩ := hw1.slice
  conv => whnf
  refine ⟨H.M, H.L, ints a, ints b, (hv'.mono (HLe.cons H _)).reads, ints_one _, Weak.refl _, by rw [ints_length, ints_length]; omega, by rw [ints_length, ints_length]; simp [maxLen]; omega, fun w2 hw2 => ?_⟩
  rw [← ints_append] at *
  generalize hall : a ++ b = all at *
  have hal : all.length ≤ 1073741824 := by rw [← hall, List.length_append]; exact hl
  conv => whnf
  have hnl : (norm all).length ≤ all.length := Nat.le_trans (cmpL_len _) (by rw [srt_length]; exact Nat.le_refl _)
  refine awp_loopL hT 50 [5, 6] (fun m vs H' => ∃ (k : Nat) (s : Value), vs = [w2, s] ∧ m + k = (norm all).length ∧ RowVal s 1 (ints ((norm all).take k)) ∧ H' = ⟨H.M, .row s 3 1 (ints ((norm all).take k)) :: .row w2 3 1 (ints all) :: H.L⟩) (norm all).length rfl rfl (weakNil _ 3 1) ⟨0, .slice none 0 0, rfl, rfl, .inl ⟨rfl, rfl⟩, rfl⟩ ?_
  rintro m u vs H' ⟨k, s, rfl, hm, hs, rfl⟩
  obtain ⟨s1, s2, s3, rfl⟩ := hs.slice
  have hfitA : ∀ x ∈ all, I64 x := fun x hx => by have := hn x hx; omega
  have hout : IntsAt ⟨H.M, .row (.slice s1 s2 s3) 3 1 (ints ((norm all).take k)) :: .row w2 3 1 (ints all) :: H.L⟩ (.slice s1 s2 s3) ((norm all).take k) := ⟨readsRow (e := 3) List.mem_cons_self hs, fun x hx => hfitA x (((norm_inc all).2 x).1 (List.mem_of_mem_take hx)), by rw [List.length_take]; omega⟩
  have hA : IntsAt ⟨H.M, .row (.slice s1 s2 s3) 3 1 (ints ((norm all).take k)) :: .row w2 3 1 (ints all) :: H.L⟩ w2 all := ⟨readsRow (e := 3) (List.mem_cons_of_mem _ List.mem_cons_self) hw2, hfitA, by omega⟩
  obtain ⟨pa, ca, rfl, _, hca⟩ := hA.open
  have hlen : ((norm all).take k).length ≤ 1073741824 := by rw [List.length_take]; omega
  have hsucc0 : ∀ ms : Int, ∀ hk : k < (norm all).length, (norm all)[k] = ms → (norm all).take (k + 1) = (norm all).take k ++ [ms] := fun ms hk e => by rw [List.take_succ_eq_append_getElem hk, e]
  generalize eo : (norm all).take k = out at *
  conv => whnf
  refine awp_loopL hT 50 [5, 6, 7, 8] (fun m' vs Hx => ∃ (i : Nat) (ms : Int), vs = [.slice pa all.length ca, .slice s1 s2 s3, .int .i64 ms, .int .i64 i] ∧ m' + i = all.length ∧ Least all out i ms ∧ Hx = ⟨H.M, .row (.slice s1 s2 s3) 3 1 (ints out) :: .row (.slice pa all.length ca) 3 1 (ints all) :: H.L⟩) all.length rfl rfl (Weak.refl _) ⟨0, -1, rfl, rfl, ⟨fun _ => ⟨rfl, by simp⟩, fun h => absurd h (by omega)⟩, rfl⟩ ?_
  rintro m' u' vs' Hx ⟨i, ms, rfl, hi, hL, rfl⟩
  conv => whnf
  refine ifC_dec (fun h1 => ?_) (fun h1 => ?_)
  · have hil : i < all.length := by omega
    have hai := geti_at hil
    have hmem := geti_mem (l := all) (i := (i : Int)) (by omega) (by omega)
    have h0 := hn _ hmem
    obtain ⟨ga, oa, rfl, hcell⟩ := hca i (by omega) (by omega)
    conv => whnf
    refine ⟨ga, oa, rfl, by omega, ?_⟩
    conv => whnf
    refine ⟨_, hcell, ?_⟩
    conv => whnf
    refine c_Has26 _ out _ _ hout _ ?_
    by_cases hx : geti all i ∈ out
    · rw [decide_eq_true hx]
      conv => whnf
      repeat (refine ⟨_, wi (by omega), ?_⟩; conv => whnf)
      exact ⟨rfl, rfl, m' - 1, _, by omega, Weak.refl _, i + 1, ms, rfl, by omega, least_in hil hL (by rw [← hai]; exact hx), rfl⟩
    · rw [decide_eq_false hx]
      conv => whnf
      refine ifC_dec (fun h2 => ?_) (fun h2 => ?_)
      · conv => whnf
        refine ⟨ga, oa, rfl, by omega, ?_⟩
        conv => whnf
        refine ⟨_, hcell, ?_⟩
        conv => whnf
        repeat (refine ⟨_, wi (by omega), ?_⟩; conv => whnf)
        exact ⟨rfl, rfl, m' - 1, _, by omega, Weak.refl _, i + 1, geti all i, rfl, by omega, by rw [hai]; exact least_new hil hL (by rw [← hai]; exact hx) (by rw [← hai]; omega) (by rw [← hai]; omega), rfl⟩
      · conv => whnf
        refine ⟨ga, oa, rfl, by omega, ?_⟩
        conv => whnf
        refine ⟨_, hcell, ?_⟩
        conv => whnf
        refine ifC_dec (fun h3 => ?_) (fun h3 => ?_)
        · conv => whnf
          refine ⟨ga, oa, rfl, by omega, ?_⟩
          conv => whnf
          refine ⟨_, hcell, ?_⟩
          conv => whnf
          repeat (refine ⟨_, wi (by omega), ?_⟩; conv => whnf)
          exact ⟨rfl, rfl, m' - 1, _, by omega, Weak.refl _, i + 1, geti all i, rfl, by omega, by rw [hai]; exact least_new hil hL (by rw [← hai]; exact hx) (by rw [← hai]; omega) (by rw [← hai]; omega), rfl⟩
        · conv => whnf
          repeat (refine ⟨_, wi (by omega), ?_⟩; conv => whnf)
          exact ⟨rfl, rfl, m' - 1, _, by omega, Weak.refl _, i + 1, ms, rfl, by omega, least_keep hil hL (by rw [← hai]; omega) (by omega), rfl⟩
  · have hie : i = all.length := by omega
    subst hie
    obtain ⟨e1, e2⟩ := least_end hL eo.symm
    conv => whnf
    refine ifC_dec (fun h4 => ?_) (fun h4 => ?_)
    · have he : out = norm all := by rw [← eo]; exact List.take_of_length_le (e1 h4)
      rw [he] at hs ⊢
      conv => whnf
      refine ⟨rfl, ?_⟩
      conv => whnf
      exact fin (weakDel 1 rfl) (hR _ hs)
    · obtain ⟨hk, hkm⟩ := e2 (by omega)
      have hsucc := hsucc0 ms hk hkm
      conv => whnf
      intro q
      conv => whnf
      refine ⟨H.M, .row (.slice pa all.length ca) 3 1 (ints all) :: H.L, ints out, ints [ms], readsNew rfl rfl, ints_one _, weakK 1 rfl, by rw [ints_length, ints_length]; simp; omega, by rw [ints_length, ints_length]; simp [maxLen]; omega, fun v' hv2 => ?_⟩
      rw [← ints_append, ← hsucc] at *
      conv => whnf
      repeat (refine ⟨_, wi (by omega), ?_⟩; conv => whnf)
      exact ⟨rfl, rfl, m - 1, _, by omega, Weak.refl _, k + 1, v', rfl, by omega, hv2, rfl⟩
end Go.Proofs.Ytjgljgkfflojbaa.A
