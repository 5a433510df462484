/- slices.DeleteFunc at ints. -/
import Derived.Test.YtjgljgkfflojbaaKS
namespace Go.Proofs.Ytjgljgkfflojbaa.A
open Go Go.RowKit
set_option linter.unusedVariables false
set_option linter.unusedSimpArgs false
set_option maxRecDepth 4000

theorem c_IndexFuncI2 (v : Value) (l : List Int) (H : Hp) (hv : IntsAt H v l) (id : Nat) (cap : Array Value) (P : Int → Bool)
    (hP : ∀ x ∈ l, ∀ R : Ending → Hp → Prop, R (.returned (.bool (P x))) H → ACalls Try.prog id ([.int .i64 x] ++ cap.toList) H R) (R : Ending → Hp → Prop)
    (hR : ∀ r : Int, (r = -1 ∧ l.any P = false) ∨ (∃ k : Nat, r = k ∧ k < l.length ∧ P (geti l k) = true ∧ (l.take k).any P = false) → R (.returned (.int .i64 r)) H) : ACalls Try.prog 51 [v, .func (.func id) #[] cap] H R := by
  obtain ⟨p, c, rfl, hlc, hc⟩ := hv.open
  have hb := hv.len
  refine acalls_code hT Try.func51 rfl rfl ?_
  conv => whnf
  refine awp_loopL hT 19 [0, 1, 7, 8] (fun n vs H' => ∃ k : Nat, vs = [.slice p l.length c, .func (.func id) #[] cap, .int .i64 l.length, .int .i64 k] ∧ n + k = l.length ∧ (l.take k).any P = false ∧ H' = H) l.length rfl rfl (Weak.refl _) ⟨0, rfl, rfl, rfl, rfl⟩ ?_
  rintro n u vs H' ⟨k, rfl, hk, ht, rfl⟩
  conv => whnf
  refine ifC_dec (fun h1 => ?_) (fun h1 => ?_)
  · conv => whnf
    obtain ⟨g, o, rfl, hcell⟩ := hc k (by omega) (by omega)
    refine ⟨g, o, rfl, by omega, ?_⟩
    conv => whnf
    refine ⟨_, hcell, ?_⟩
    conv => whnf
    have hkl : k < l.length := by omega
    refine hP _ (geti_mem (by omega) (by omega)) _ ?_
    conv => whnf
    refine ifC_cases (fun h2 => ?_) (fun h2 => ?_)
    · conv => whnf
      refine ⟨rfl, ?_⟩
      conv => whnf
      exact fin (Weak.refl _) (hR _ (.inr ⟨k, rfl, hkl, h2, ht⟩))
    · conv => whnf
      repeat (refine ⟨_, wi (by omega), ?_⟩; conv => whnf)
      refine ⟨rfl, rfl, n - 1, _, by omega, Weak.refl _, k + 1, rfl, by omega, any_step hkl ht ?_, rfl⟩
      rw [← geti_at hkl]; simpa using h2
  · conv => whnf
    refine ⟨rfl, ?_⟩
    conv => whnf
    have : k = l.length := by omega
    subst this
    rw [List.take_length] at ht
    exact fin (Weak.refl _) (hR _ (.inl ⟨rfl, ht⟩))
theorem setN_take : ∀ (vs xs : List Value) (i : Nat), (setN xs i vs).take i = xs.take i
  | [], xs, i => rfl
  | v :: vs, xs, i => by
    have h := setN_take vs (xs.set i v) (i + 1)
    have h2 : ((setN (xs.set i v) (i + 1) vs).take (i + 1)).take i = ((xs.set i v).take (i + 1)).take i := by rw [h]
    rw [List.take_take, List.take_take, Nat.min_eq_left (by omega)] at h2
    show (setN (xs.set i v) (i + 1) vs).take i = _
    rw [h2, List.take_set_of_le (by omega)]
theorem oneCells_ints : ∀ l : List Int, oneCells (ints l)
  | [] => trivial
  | a :: l => ⟨rfl, oneCells_ints l⟩
theorem filter_none {P : Int → Bool} {l : List Int} (h : l.any P = false) : l.filter (fun x => !P x) = l :=
  List.filter_eq_self.2 fun x hx => by have := List.any_eq_false.1 h x hx; simpa using this

set_option maxHeartbeats 1000000 in
theorem c_DeleteFuncI (v : Value) (l : List Int) (M : Nat → Option Obj) (L : List Atom) (hv : RowVal v 1 (ints l)) (hfit : ∀ x ∈ l, I64 x) (hlen : l.length ≤ 1099511627776) (id : Nat) (cap : Array Value) (P : Int → Bool)
    (hP : ∀ x ∈ l, ∀ xs (R' : Ending → Hp → Prop), R' (.returned (.bool (P x))) ⟨M, .row v 3 1 (ints xs) :: L⟩ → ACalls Try.prog id ([.int .i64 x] ++ cap.toList) ⟨M, .row v 3 1 (ints xs) :: L⟩ R') (R : Ending → Hp → Prop)
    (hR : ∀ v', RowVal v' 1 (ints (l.filter fun x => !P x)) → R (.returned v') ⟨M, .row v' 3 1 (ints (l.filter fun x => !P x)) :: L⟩) :
    ACalls Try.prog 38 [v, .func (.func id) #[] cap] ⟨M, .row v 3 1 (ints l) :: L⟩ R := by
  obtain ⟨p, n, c, rfl⟩ := hv.slice
  refine acalls_code hT Try.func38 rfl rfl ?_
  conv => whnf
  refine c_IndexFuncI2 _ l _ ⟨readsRow (e := 3) List.mem_cons_self hv, hfit, by omega⟩ id cap P (fun x hx R' hR' => hP x hx l R' hR') _ ?_
  rintro r (⟨rfl, hnone⟩ | ⟨k, rfl, hkl, hk, hbef⟩)
  · rw [filter_none hnone] at hR
    conv => whnf
    refine ⟨rfl, ?_⟩
    conv => whnf
    exact fin (Weak.refl _) (hR _ hv)
  · rcases hv with ⟨_, h0⟩ | ⟨g, o, n', c', h, hn, hnc, hcm⟩
    · have := congrArg List.length h0
      rw [ints_length] at this
      simp at this
      simp [this] at hkl
    cases h
    rw [ints_length, Nat.mul_one] at hn
    subst hn
    have e1 : l.take k = (l.take (k + 1)).filter fun x => !P x := by
      rw [List.take_succ_eq_append_getElem hkl, List.filter_append, filter_none hbef, ← geti_at hkl]
      simp [hk]
    conv => whnf
    repeat (refine ⟨_, wi (by omega), ?_⟩; conv => whnf)
    refine awp_loopL hT 42 [0, 1, 5, 6] (fun m vs H' => ∃ (i j : Nat) (xs : List Int), vs = [.slice (some ⟨g, o, none⟩) l.length c, .func (.func id) #[] cap, .int .i64 i, .int .i64 j] ∧ m + j = l.length ∧ i < j ∧ xs.length = l.length ∧ xs.take i = ((l.take j).filter fun x => !P x) ∧ xs.drop j = l.drop j ∧
      H' = ⟨M, .row (.slice (some ⟨g, o, none⟩) l.length c) 3 1 (ints xs) :: L⟩) (l.length - (k + 1)) rfl rfl (Weak.refl _) ⟨k, k + 1, l, rfl, by omega, by omega, rfl, e1, rfl, rfl⟩ ?_
    clear e1 hk hbef
    rintro m u vs H' ⟨i, j, xs, rfl, hm, hij, hxl, htk, hdr, rfl⟩
    have hrow : Reads ⟨M, .row (.slice (some ⟨g, o, none⟩) l.length c) 3 1 (ints xs) :: L⟩ (.slice (some ⟨g, o, none⟩) l.length c) 1 (ints xs) := readsRow (e := 3) List.mem_cons_self (.inr ⟨g, o, l.length, c, rfl, by rw [ints_length, hxl, Nat.mul_one], hnc, hcm⟩)
    conv => whnf
    refine ifC_dec (fun h1 => ?_) (fun h1 => ?_)
    · have hjl : j < l.length := by omega
      have hxj : geti xs j = geti l j := by
        have h2 : xs[j]? = l[j]? := by
          have h3 : (xs.drop j)[0]? = (l.drop j)[0]? := by rw [hdr]
          simpa using h3
        simp [geti, List.getD_eq_getElem?_getD, h2]
      obtain ⟨q1, q2, eq, hcell⟩ := intsAt hrow
      obtain ⟨gq, oq, e3, hce⟩ := hcell j (by omega) (by omega)
      rw [hxl] at eq
      cases eq
      cases e3
      rw [hxj] at hce
      conv => whnf
      refine ⟨g, o, rfl, by omega, ?_⟩
      conv => whnf
      refine ⟨_, hce, ?_⟩
      conv => whnf
      refine hP _ (geti_mem (by omega) (by omega)) xs _ ?_
      have htk1 : ((l.take (j + 1)).filter fun x => !P x) = xs.take i ++ (if P (geti l j) = true then [] else [geti l j]) := by
        rw [List.take_succ_eq_append_getElem hjl, List.filter_append, htk, ← geti_at hjl]
        congr 1
        by_cases h : P (geti l j) = true <;> simp [h]
      cases hp : P (geti l j) with
      | true =>
        rw [if_pos hp, List.append_nil] at htk1
        conv => whnf
        repeat (refine ⟨_, wi (by omega), ?_⟩; conv => whnf)
        exact ⟨rfl, rfl, m - 1, _, by omega, Weak.refl _, i, j + 1, xs, rfl, by omega, by omega, hxl, htk1.symm, by rw [← List.drop_drop, hdr, List.drop_drop], rfl⟩
      | false =>
        rw [if_neg (by simp [hp])] at htk1
        conv => whnf
        refine ⟨g, o, rfl, by omega, ?_⟩
        conv => whnf
        refine stW 0 rfl i (by simp) (by rw [ints_length]; simp; omega) ⟨rfl, trivial⟩ (ints_set xs i (geti l j)) ?_
        conv => whnf
        repeat (refine ⟨_, wi (by omega), ?_⟩; conv => whnf)
        refine ⟨rfl, rfl, m - 1, _, by omega, Weak.refl _, i + 1, j + 1, xs.set i (geti l j), rfl, by omega, by omega, by rw [List.length_set]; exact hxl, ?_, ?_, rfl⟩
        · rw [htk1, List.take_succ_eq_append_getElem (by rw [List.length_set]; omega)]
          simp [List.take_set_of_le]
        · rw [List.drop_set_of_lt (by omega), ← List.drop_drop, hdr, List.drop_drop]
    · have hj : j = l.length := by omega
      subst hj
      rw [List.take_length] at htk
      conv => whnf
      refine ⟨i, rfl, by omega, ?_⟩
      conv => whnf
      have hsub : subAddr (some ⟨g, o, none⟩) c i 1 = some ⟨g, o + i, none⟩ := by
        unfold subAddr
        rw [if_neg (by omega), Nat.mul_one]
        simp only [Option.map_some, Addr.add]
        split
        · subst_vars; rfl
        · rfl
      obtain ⟨_, L2, hst, hL2⟩ := stW (L := .row (.slice (some ⟨g, o, none⟩) l.length c) 3 1 (ints xs) :: L) (Φ := fun L2 => L2 = .row (.slice (some ⟨g, o, none⟩) l.length c) 3 1 (setN (ints xs) i (repZ (l.length - i) [.int .i64 0])) :: L) (vs := repZ (l.length - i) [.int .i64 0]) 0 rfl i rfl (by rw [repZ_ints, ints_length, ints_length, List.length_replicate]; omega) (by rw [repZ_ints]; exact oneCells_ints _) rfl rfl
      subst hL2
      refine ⟨⟨rfl, trivial⟩, .inr ⟨g, o + i, _, hsub, hst, ?_⟩⟩
      conv => whnf
      refine ⟨i, rfl, by omega, ?_⟩
      conv => whnf
      refine ⟨rfl, ?_⟩
      conv => whnf
      have hw := weakPrefix (M := M) (L := L) (g := g) (o := o) (n := l.length) (c := c) (k := i) (e := 3) (xs := setN (ints xs) i (repZ (l.length - i) [.int .i64 0])) (by omega)
      have e2 : (setN (ints xs) i (repZ (l.length - i) [.int .i64 0])).take i = ints (l.filter fun x => !P x) := by
        rw [setN_take, ← htk]; simp [ints, List.map_take]
      rw [e2] at hw
      have e3 : subAddr (some ⟨g, o, none⟩) c 0 1 = some ⟨g, o, none⟩ := by
        unfold subAddr
        split
        · rfl
        · simp [Addr.add]
      rw [e3]
      exact fin hw (hR _ (.inr ⟨g, o, i, c, rfl, by rw [ints_length, ← htk, List.length_take]; omega, by omega, hcm⟩))
end Go.Proofs.Ytjgljgkfflojbaa.A
