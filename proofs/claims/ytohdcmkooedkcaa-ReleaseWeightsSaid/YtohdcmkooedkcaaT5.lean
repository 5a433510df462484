/- slices.DeleteFunc at the rows of a table; release: Without. -/
import Derived.Test.YtohdcmkooedkcaaT4
namespace Go.Proofs.Ytohdcmkooedkcaa.A
open Go Go.RowKit
set_option linter.unusedVariables false
set_option linter.unusedSimpArgs false
set_option maxRecDepth 20000

theorem setN_takeG : ∀ (vs xs : List Value) (i : Nat), (setN xs i vs).take i = xs.take i
  | [], xs, i => rfl
  | v :: vs, xs, i => by
    have h := setN_takeG vs (xs.set i v) (i + 1)
    have h2 : ((setN (xs.set i v) (i + 1) vs).take (i + 1)).take i = ((xs.set i v).take (i + 1)).take i := by rw [h]
    rw [List.take_take, List.take_take, Nat.min_eq_left (by omega)] at h2
    show (setN (xs.set i v) (i + 1) vs).take i = _
    rw [h2, List.take_set_of_le (by omega)]
theorem setN_len : ∀ (vs xs : List Value) (i : Nat), (setN xs i vs).length = xs.length
  | [], xs, i => rfl
  | v :: vs, xs, i => by
    show (setN (xs.set i v) (i + 1) vs).length = _
    rw [setN_len, List.length_set]
theorem setN_get : ∀ (vs xs : List Value) (i j : Nat), i + vs.length ≤ xs.length → (setN xs i vs)[j]? = if i ≤ j ∧ j < i + vs.length then vs[j - i]? else xs[j]?
  | [], xs, i, j, h => by
    rw [if_neg (by simp only [List.length_nil]; omega)]; rfl
  | v :: vs, xs, i, j, h => by
    simp only [List.length_cons] at h ⊢
    show (setN (xs.set i v) (i + 1) vs)[j]? = _
    rw [setN_get vs _ _ _ (by rw [List.length_set]; omega)]
    by_cases hij : i = j
    · subst hij
      rw [if_neg (by omega), if_pos (by omega), List.getElem?_set_self (by omega)]
      simp
    · rw [List.getElem?_set_ne hij]
      by_cases h2 : i + 1 ≤ j ∧ j < i + 1 + vs.length
      · rw [if_pos h2, if_pos (by omega), show j - i = (j - (i + 1)) + 1 by omega, List.getElem?_cons_succ]
      · rw [if_neg h2, if_neg (by omega)]
theorem setN_all {xs ys : List Value} (h : xs.length = ys.length) : setN xs 0 ys = ys := by
  apply List.ext_getElem?
  intro j
  rw [setN_get _ _ _ _ (by omega)]
  by_cases hj : j < ys.length
  · rw [if_pos (by omega), Nat.sub_zero]
  · rw [if_neg (by omega), List.getElem?_eq_none (by omega), List.getElem?_eq_none (by omega)]
theorem repZ_len (n : Nat) (z : List Value) : (repZ n z).length = n * z.length := by
  induction n with
  | zero => simp [repZ]
  | succ n ih => simp only [repZ, List.replicate_succ, List.flatten_cons, List.length_append] at *; rw [ih, Nat.succ_mul]; omega
theorem oneCells_app : ∀ {a b : List Value}, oneCells a → oneCells b → oneCells (a ++ b)
  | [], _, _, h => h
  | _ :: a, _, ⟨h1, h2⟩, h => ⟨h1, oneCells_app h2 h⟩
theorem oneCells_rep {z : List Value} (h : oneCells z) : ∀ n, oneCells (repZ n z)
  | 0 => trivial
  | n + 1 => oneCells_app h (oneCells_rep h n)
theorem rvs_take (xs : List RV) (i : Nat) : (rvs xs).take (i * 2) = rvs (xs.take i) := by
  induction xs generalizing i with
  | nil => simp [rvs]
  | cons a xs ih =>
    cases i with
    | zero => simp [rvs]
    | succ i =>
      have := ih i
      simp only [rvs, rvc, List.flatMap_cons, List.take_succ_cons, List.cons_append, List.nil_append] at *
      rw [show (i + 1) * 2 = i * 2 + 1 + 1 by omega]
      simp only [List.take_succ_cons]
      rw [this]
theorem rvs_set {xs : List RV} {k : Nat} (hk : k < xs.length) (x : RV) : setN (rvs xs) (k * 2) (rvc x) = rvs (xs.set k x) := by
  induction xs generalizing k with
  | nil => simp at hk
  | cons a r ih =>
    cases k with
    | zero => simp [rvs, rvc, setN]
    | succ k =>
      have := ih (k := k) (by simpa using hk)
      simp only [rvs, rvc, setN, List.flatMap_cons, List.set_cons_succ, List.cons_append, List.nil_append] at *
      rw [show (k + 1) * 2 + 1 = k * 2 + 1 + 1 + 1 by omega, show (k + 1) * 2 = k * 2 + 1 + 1 by omega]
      simp only [List.set_cons_succ]
      rw [this]
def rvV (x : RV) : Value := .agg #[.int .i64 x.r.p, x.v]
theorem c_IndexFuncRw (v : Value) (l : List RV) (H : Hp) (hv : Reads H v 2 (rvs l)) (hlen : l.length ≤ 1099511627776) (id : Nat) (cap : Array Value) (P : RV → Bool)
    (hP : ∀ x ∈ l, ∀ R : Ending → Hp → Prop, R (.returned (.bool (P x))) H → ACalls Try.prog id ([rvV x] ++ cap.toList) H R) (R : Ending → Hp → Prop)
    (hR : ∀ r : Int, (r = -1 ∧ l.any P = false) ∨ (∃ (k : Nat) (hk : k < l.length), r = k ∧ P l[k] = true ∧ (l.take k).any P = false) → R (.returned (.int .i64 r)) H) : ACalls Try.prog 43 [v, .func (.func id) #[] cap] H R := by
  obtain ⟨p, c, rfl, hc⟩ := rvAt hv
  refine acalls_code hT Try.func43 rfl rfl ?_
  conv => whnf
  refine awp_loopL hT 19 [0, 1, 7, 8] (fun n vs H' => ∃ k : Nat, vs = [.slice p l.length c, .func (.func id) #[] cap, .int .i64 l.length, .int .i64 k] ∧ n + k = l.length ∧ (l.take k).any P = false ∧ H' = H) l.length rfl rfl (Weak.refl _) ⟨0, rfl, rfl, rfl, rfl⟩ ?_
  rintro n u vs H' ⟨k, rfl, hk, ht, rfl⟩
  conv => whnf
  refine ifC_dec (fun h1 => ?_) (fun h1 => ?_)
  · have hkl : k < l.length := by omega
    obtain ⟨g, o, rfl, hce⟩ := hc k hkl
    conv => whnf
    refine ⟨g, o, rfl, by omega, ?_⟩
    conv => whnf
    refine ⟨rvc l[k], rfl, hce, ?_⟩
    conv => whnf
    refine hP _ (List.getElem_mem hkl) _ ?_
    conv => whnf
    refine ifC_cases (fun h2 => ?_) (fun h2 => ?_)
    · conv => whnf
      refine ⟨rfl, ?_⟩
      conv => whnf
      exact fin (Weak.refl _) (hR _ (.inr ⟨k, hkl, rfl, h2, ht⟩))
    · conv => whnf
      repeat (refine ⟨_, wi (by omega), ?_⟩; conv => whnf)
      exact ⟨rfl, rfl, n - 1, _, by omega, Weak.refl _, k + 1, rfl, by omega, any_step hkl ht (by simpa using h2), rfl⟩
  · conv => whnf
    refine ⟨rfl, ?_⟩
    conv => whnf
    have : k = l.length := by omega
    subst this
    rw [List.take_length] at ht
    exact fin (Weak.refl _) (hR _ (.inl ⟨rfl, ht⟩))
theorem filter_noneR {P : RV → Bool} {l : List RV} (h : l.any P = false) : l.filter (fun x => !P x) = l :=
  List.filter_eq_self.2 fun x hx => by have := List.any_eq_false.1 h x hx; simpa using this
set_option maxHeartbeats 2000000 in
theorem c_DeleteFuncRw (v : Value) (l : List RV) (M : Nat → Option Obj) (L : List Atom) (hv : RowVal v 2 (rvs l)) (hlen : l.length ≤ 1000) (hone : ∀ x ∈ l, ∃ p n c, x.v = .slice p n c) (id : Nat) (cap : Array Value) (P : RV → Bool)
    (hP : ∀ x ∈ l, ∀ L' (R' : Ending → Hp → Prop), (∀ a ∈ L, a ∈ L') → R' (.returned (.bool (P x))) ⟨M, L'⟩ → ACalls Try.prog id ([rvV x] ++ cap.toList) ⟨M, L'⟩ R') (R : Ending → Hp → Prop)
    (hR : ∀ v', RowVal v' 2 (rvs (l.filter fun x => !P x)) → R (.returned v') ⟨M, .row v' 55 2 (rvs (l.filter fun x => !P x)) :: L⟩) :
    ACalls Try.prog 29 [v, .func (.func id) #[] cap] ⟨M, .row v 55 2 (rvs l) :: L⟩ R := by
  obtain ⟨p, n, c, rfl⟩ := hv.slice
  refine acalls_code hT Try.func29 rfl rfl ?_
  conv => whnf
  refine c_IndexFuncRw _ l _ (readsRow (e := 55) List.mem_cons_self hv) (by omega) id cap P (fun x hx R' hR' => hP x hx _ R' (fun a ha => List.mem_cons_of_mem _ ha) hR') _ ?_
  rintro r (⟨rfl, hnone⟩ | ⟨k, hkl, rfl, hk, hbef⟩)
  · rw [filter_noneR hnone] at hR
    conv => whnf
    refine ⟨rfl, ?_⟩
    conv => whnf
    exact fin (Weak.refl _) (hR _ hv)
  · rcases hv with ⟨_, h0⟩ | ⟨g, o, n', c', h, hn, hnc, hcm⟩
    · have h1 : l.length * 2 = 0 := by rw [← rvs_length, h0]; rfl
      omega
    cases h
    rw [rvs_length] at hn
    have hn' : l.length = n := by omega
    subst hn'
    have e1 : l.take k = (l.take (k + 1)).filter fun x => !P x := by
      rw [List.take_succ_eq_append_getElem hkl, List.filter_append, filter_noneR hbef]
      simp [hk]
    conv => whnf
    repeat (refine ⟨_, wi (by omega), ?_⟩; conv => whnf)
    refine awp_loopL hT 42 [0, 1, 5, 6] (fun m vs H' => ∃ (i j : Nat) (xs : List RV), vs = [.slice (some ⟨g, o, none⟩) l.length c, .func (.func id) #[] cap, .int .i64 i, .int .i64 j] ∧ m + j = l.length ∧ i < j ∧ xs.length = l.length ∧ xs.take i = ((l.take j).filter fun x => !P x) ∧ xs.drop j = l.drop j ∧
      H' = ⟨M, .row (.slice (some ⟨g, o, none⟩) l.length c) 55 2 (rvs xs) :: L⟩) (l.length - (k + 1)) rfl rfl (Weak.refl _) ⟨k, k + 1, l, rfl, by omega, by omega, rfl, e1, rfl, rfl⟩ ?_
    clear e1 hk hbef
    rintro m u vs H' ⟨i, j, xs, rfl, hm, hij, hxl, htk, hdr, rfl⟩
    have hrow : Reads ⟨M, .row (.slice (some ⟨g, o, none⟩) l.length c) 55 2 (rvs xs) :: L⟩ (.slice (some ⟨g, o, none⟩) l.length c) 2 (rvs xs) := readsRow (e := 55) List.mem_cons_self (.inr ⟨g, o, l.length, c, rfl, by rw [rvs_length, hxl], hnc, hcm⟩)
    conv => whnf
    refine ifC_dec (fun h1 => ?_) (fun h1 => ?_)
    · have hjl : j < l.length := by omega
      have hjx : j < xs.length := by omega
      have hxj : xs[j] = l[j] := by
        have h3 : (xs.drop j)[0]? = (l.drop j)[0]? := by rw [hdr]
        simpa [hjl, hjx] using h3
      obtain ⟨q1, q2, eq, hcell⟩ := rvAt hrow
      obtain ⟨gq, oq, e3, hce⟩ := hcell j hjx
      rw [hxl] at eq
      cases eq
      cases e3
      rw [hxj] at hce
      obtain ⟨pv, nv, cv, ev⟩ := hone _ (List.getElem_mem hjl)
      conv => whnf
      refine ⟨g, o, rfl, by omega, ?_⟩
      conv => whnf
      refine ⟨rvc l[j], rfl, hce, ?_⟩
      unfold rvc
      rw [ev]
      conv => whnf
      intro g7
      conv => whnf
      refine stC 0 rfl rfl (by first | (refine ⟨rfl, ?_⟩; repeat' (first | exact trivial | refine ⟨rfl, ?_⟩)) | simp [oneCells, Value.oneCell', setN]) ?_
      conv => whnf
      refine ldA 0 rfl rfl ?_
      conv => whnf
      have htk1 : ((l.take (j + 1)).filter fun x => !P x) = xs.take i ++ (if P l[j] = true then [] else [l[j]]) := by
        rw [List.take_succ_eq_append_getElem hjl, List.filter_append, htk]
        congr 1
        by_cases h : P l[j] = true <;> simp [h]
      have hPj := hP _ (List.getElem_mem hjl) (.cells g7 55 [.int .i64 l[j].r.p, .slice pv nv cv] :: .row (.slice (some ⟨g, o, none⟩) l.length c) 55 2 (rvs xs) :: L)
      unfold rvV at hPj
      rw [ev] at hPj
      refine hPj _ (fun a ha => by simp [ha]) ?_
      have hset := rvs_set (k := i) (xs := xs) (by omega) l[j]
      unfold rvc at hset
      rw [ev] at hset
      cases hp : P l[j] with
      | true =>
        rw [if_pos hp, List.append_nil] at htk1
        conv => whnf
        repeat (refine ⟨_, wi (by omega), ?_⟩; conv => whnf)
        exact ⟨rfl, rfl, m - 1, _, by omega, weakK 1 rfl, i, j + 1, xs, rfl, by omega, by omega, hxl, htk1.symm, by rw [← List.drop_drop, hdr, List.drop_drop], rfl⟩
      | false =>
        rw [if_neg (by simp [hp])] at htk1
        conv => whnf
        refine ldA 0 rfl rfl ?_
        conv => whnf
        refine ⟨g, o, rfl, by omega, ?_⟩
        conv => whnf
        refine stW 1 rfl (i * 2) (by simp) (by rw [rvs_length]; simp; omega) ⟨rfl, rfl, trivial⟩ hset ?_
        conv => whnf
        repeat (refine ⟨_, wi (by omega), ?_⟩; conv => whnf)
        refine ⟨rfl, rfl, m - 1, _, by omega, weakK 1 rfl, i + 1, j + 1, xs.set i l[j], rfl, by omega, by omega, by rw [List.length_set]; exact hxl, ?_, ?_, rfl⟩
        · rw [htk1, List.take_succ_eq_append_getElem (by rw [List.length_set]; omega)]
          simp [List.take_set_of_le]
        · rw [List.drop_set_of_lt (by omega), ← List.drop_drop, hdr, List.drop_drop]
    · have hj : j = l.length := by omega
      subst hj
      rw [List.take_length] at htk
      conv => whnf
      refine ⟨i, rfl, by omega, ?_⟩
      conv => whnf
      have hsub : subAddr (some ⟨g, o, none⟩) c i 2 = some ⟨g, o + i * 2, none⟩ := by
        unfold subAddr
        rw [if_neg (by omega)]
        simp only [Option.map_some, Addr.add]
        split
        · rename_i h0; rw [h0]; rfl
        · rfl
      obtain ⟨_, L2, hst, hL2⟩ := stW (L := .row (.slice (some ⟨g, o, none⟩) l.length c) 55 2 (rvs xs) :: L) (Φ := fun L2 => L2 = .row (.slice (some ⟨g, o, none⟩) l.length c) 55 2 (setN (rvs xs) (i * 2) (repZ (l.length - i) [.int .i64 0, .slice none 0 0])) :: L) (vs := repZ (l.length - i) [.int .i64 0, .slice none 0 0]) 0 rfl (i * 2) rfl (by rw [repZ_len, rvs_length]; simp; omega) (oneCells_rep (z := [.int .i64 0, .slice none 0 0]) ⟨rfl, rfl, trivial⟩ _) rfl rfl
      subst hL2
      refine ⟨⟨rfl, rfl, trivial⟩, .inr ⟨g, o + i * 2, _, hsub, hst, ?_⟩⟩
      conv => whnf
      refine ⟨i, rfl, by omega, ?_⟩
      conv => whnf
      refine ⟨rfl, ?_⟩
      conv => whnf
      have hw := weakPrefixN (M := M) (L := L) (g := g) (o := o) (n := l.length) (c := c) (k := i) (sz := 2) (e := 55) (xs := setN (rvs xs) (i * 2) (repZ (l.length - i) [.int .i64 0, .slice none 0 0])) (by omega)
      have e2 : (setN (rvs xs) (i * 2) (repZ (l.length - i) [.int .i64 0, .slice none 0 0])).take (i * 2) = rvs (l.filter fun x => !P x) := by
        rw [setN_takeG, rvs_take, htk]
      rw [e2] at hw
      have e3 : subAddr (some ⟨g, o, none⟩) c 0 2 = some ⟨g, o, none⟩ := by
        unfold subAddr
        split
        · rfl
        · simp [Addr.add]
      rw [e3]
      have hfl : (l.filter fun x => !P x).length = i := by rw [← htk, List.length_take]; omega
      exact fin hw (hR _ (.inr ⟨g, o, i, c, rfl, by rw [rvs_length, hfl], by omega, hcm⟩))
def keepP (person : Int) (x : RV) : Bool := decide (x.r.p ≠ person)
theorem c_Without1 (x : RV) (person : Int) (gp : Nat) (H : Hp) (hx : ∃ p n c, x.v = .slice p n c) (hc : H.cell gp 0 (.int .i64 person)) (R : Ending → Hp → Prop) (hR : R (.returned (.bool (decide (x.r.p = person)))) H) :
    ACalls Try.prog 30 [rvV x, ptr gp] H R := by
  obtain ⟨p, n, c, ev⟩ := hx
  unfold rvV
  rw [ev]
  refine acalls_code hT Try.func30 rfl rfl ?_
  conv => whnf
  intro g2
  conv => whnf
  refine ldS 0 rfl rfl ?_
  conv => whnf
  refine ⟨_, HLe.cell (HLe.cons H _) hc, ?_⟩
  conv => whnf
  refine ⟨rfl, ?_⟩
  conv => whnf
  exact fin (weakK 1 rfl) hR
theorem c_Without (sv rv : Value) (sz : List Int) (rs : List RV) (person : Int) (H : Hp) (h : TbAt H sv rv sz rs) (ho : okTb (tbOf sz rs)) (R : Ending → Hp → Prop)
    (hR : ∀ v', RowVal v' 2 (rvs (rs.filter (keepP person))) → R (.returned (.agg #[sv, v'])) ⟨H.M, .row v' 55 2 (rvs (rs.filter (keepP person))) :: H.L⟩) :
    ACalls Try.prog 17 [.agg #[sv, rv], .int .i64 person] H R := by
  obtain ⟨ps, cs, rfl, _⟩ := intsAt h.s
  obtain ⟨pr, cr, rfl, hcr⟩ := rvAt h.r
  have hrl := ho.rl
  rw [tbOf_rows] at hrl
  refine acalls_code hT Try.func17 rfl rfl ?_
  conv => whnf
  intro g2
  conv => whnf
  intro g3
  conv => whnf
  intro g4
  conv => whnf
  refine ldS 2 rfl rfl ?_
  conv => whnf
  refine ⟨rs.length, rfl, rfl, by omega, by simp [maxLen]; omega, ?_⟩
  intro g5
  conv => whnf
  refine ldS 3 rfl rfl ?_
  conv => whnf
  obtain ⟨_, n', c', e, hnc, hll, _⟩ := h.r
  cases e
  refine ⟨0, _, rvs rs, _, _, _, _, _, _, rfl, rfl, rfl, Nat.le_refl _, h.r.mono (hle_sub fun a ha => by simp [ha]), rvs_one h.v, ?_⟩
  rw [setN_all (by rw [repZ_len, rvs_length]; rfl)]
  conv => whnf
  have hsl : ∀ x ∈ rs, ∃ p n c, x.v = .slice p n c := fun x hx => (h.v x hx).slice
  refine c_DeleteFuncRw _ rs H.M _ (.inr ⟨g5, 0, rs.length, rs.length, rfl, by rw [rvs_length], Nat.le_refl _, by simp [maxLen]; omega⟩) (by omega) hsl 30 #[ptr g3] (fun x => decide (x.r.p = person)) (fun x hx L' R' hL hR' => c_Without1 x person g3 _ (hsl x hx) (cellOwn (hL _ (List.mem_cons_of_mem _ List.mem_cons_self)) rfl) _ hR') _ ?_
  have ef : (rs.filter fun x => !decide (x.r.p = person)) = rs.filter (keepP person) := by
    congr 1
    funext x
    unfold keepP
    by_cases hx : x.r.p = person <;> simp [hx]
  rw [ef]
  intro v' hv'
  obtain ⟨a1, a2, a3, rfl⟩ := hv'.slice
  conv => whnf
  refine stC 3 rfl rfl (by first | (refine ⟨rfl, ?_⟩; repeat' (first | exact trivial | refine ⟨rfl, ?_⟩)) | simp [oneCells, Value.oneCell', setN]) ?_
  conv => whnf
  refine ldA 3 rfl rfl ?_
  conv => whnf
  refine stC 1 rfl rfl (by first | (refine ⟨rfl, ?_⟩; repeat' (first | exact trivial | refine ⟨rfl, ?_⟩)) | simp [oneCells, Value.oneCell', setN]) ?_
  conv => whnf
  refine ⟨rfl, ?_⟩
  conv => whnf
  refine ldA 1 rfl rfl ?_
  conv => whnf
  exact fin (weakSkip 1 3 rfl) (hR _ hv')
end Go.Proofs.Ytohdcmkooedkcaa.A
