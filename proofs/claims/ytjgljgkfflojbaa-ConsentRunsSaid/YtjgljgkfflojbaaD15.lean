/- Pieces that stand by; the book's contracts with them; what the acts keep of the bases. -/
import Derived.Test.YtjgljgkfflojbaaD14
namespace Go.Proofs.Ytjgljgkfflojbaa.A
open Go Go.RowKit
set_option linter.unusedVariables false
set_option linter.unusedSimpArgs false
set_option maxRecDepth 20000

section
variable {P : Program} {f : FuncId} {args : List Value} {R R' : Ending → Hp → Prop} {M : Nat → Option Obj} {X : List Atom}
theorem ACalls.post {H : Hp} (h : ACalls P f args H R') (hr : ∀ e H', R' e H' → ∃ H1, Weak H' H1 ∧ R e H1) : ACalls P f args H R := by
  obtain ⟨⟨fn, h1, h2, h3⟩, hc⟩ := acalls_ok h
  refine acalls_mk h1 h2 h3 fun w0 F w hw => (hc w0 F w hw).mono fun e w' ⟨H', hr', hR⟩ => ?_
  obtain ⟨H1, hw1, hR1⟩ := hr _ _ hR
  exact ⟨H1, hw1 w0 F w' hr', hR1⟩
theorem ACalls.frame1 (a : Atom) (h : ACalls P f args ⟨M, X⟩ R') (hr : ∀ e H', R' e H' → R e ⟨H'.M, a :: H'.L⟩) : ACalls P f args ⟨M, a :: X⟩ R := by
  obtain ⟨⟨fn, h1, h2, h3⟩, hc⟩ := acalls_ok h
  refine acalls_mk h1 h2 h3 fun w0 F w hw => ?_
  have hr' : RepF w0 (a :: F) ⟨M, X⟩ w := Rep.perm hw (List.perm_middle (l₁ := X) (l₂ := F) (a := a)).symm
  refine (hc w0 (a :: F) w hr').mono fun e w' ⟨H', h1, hR⟩ => ⟨⟨H'.M, a :: H'.L⟩, Rep.perm h1 (List.perm_middle (l₁ := H'.L) (l₂ := F) (a := a)), hr _ _ hR⟩
end
theorem ACalls.frame {P : Program} {f : FuncId} {args : List Value} {M : Nat → Option Obj} {X : List Atom} : ∀ (A : List Atom) {R R' : Ending → Hp → Prop}, ACalls P f args ⟨M, X⟩ R' → (∀ e H', R' e H' → R e ⟨H'.M, A ++ H'.L⟩) → ACalls P f args ⟨M, A ++ X⟩ R
  | [], R, R', h, hr => h.mono hr
  | a :: A, R, R', h, hr => ACalls.frame1 a (ACalls.frame A (R := fun e H'' => ∃ H', R' e H' ∧ H'' = ⟨H'.M, A ++ H'.L⟩) h fun e H' hR => ⟨H', hR, rfl⟩) fun e H'' ⟨H', hR, e'⟩ => by subst e'; exact hr _ _ hR
/-- A book in pieces X, of which K stay. -/
def BoO (g : Nat) (S : St) (M : Nat → Option Obj) (K X : List Atom) : Prop := (∀ a ∈ K, a ∈ X) ∧ Bo g S M K ⟨M, X⟩
theorem Bo.o {g : Nat} {S : St} {M : Nat → Option Obj} {K : List Atom} {H : Hp} (h : Bo g S M K H) : ∃ X, Weak H ⟨M, X⟩ ∧ BoO g S M K X := by
  obtain ⟨L, h1, h2, h3⟩ := h.reads
  exact ⟨L, h1, h2, h3⟩
theorem BoO.add {g : Nat} {S : St} {M : Nat → Option Obj} {K X : List Atom} (h : BoO g S M K X) : ∀ N : List Atom, BoO g S M (N ++ K) (N ++ X)
  | [] => h
  | a :: N => ⟨fun b hb => by
      rcases List.mem_cons.1 hb with e | hb
      · exact e ▸ List.mem_cons_self
      · exact List.mem_cons_of_mem _ ((h.add N).1 b hb), (h.add N).2.add a⟩
section
variable {g : Nat} {S : St} {M : Nat → Option Obj} {K X : List Atom} {R : Ending → Hp → Prop}
theorem q_Depends (A : List Atom) (hb : BoO g S M K X) (hok : okS S) {i : Int} (hi : 0 ≤ i ∧ i < S.ts.length)
    (hR : ∀ X' v', RowVal v' 1 (ints (S.th i).b) → BoO g S M (.row v' 3 1 (ints (S.th i).b) :: K) X' → R (.returned (.tuple #[v', .bool (S.th i).u, .int .i64 0])) ⟨M, A ++ X'⟩) :
    ACalls Try.prog 15 [ptr g, .int .i64 i] ⟨M, A ++ X⟩ R := by
  refine ACalls.frame A (R' := fun e H' => ∃ X' v', RowVal v' 1 (ints (S.th i).b) ∧ BoO g S M (.row v' 3 1 (ints (S.th i).b) :: K) X' ∧ H' = ⟨M, X'⟩ ∧ e = .returned (.tuple #[v', .bool (S.th i).u, .int .i64 0])) ?_ fun e H' ⟨X', v', h1, h2, h3, h4⟩ => by subst h3 h4; exact hR X' v' h1 h2
  refine ACalls.post (R' := fun e H' => ∃ v', RowVal v' 1 (ints (S.th i).b) ∧ Bo g S M (.row v' 3 1 (ints (S.th i).b) :: K) H' ∧ e = .returned (.tuple #[v', .bool (S.th i).u, .int .i64 0]))
    (p_Depends hb.2 hok (fun h => absurd hi h) fun _ H' v' h1 h2 => ⟨v', h1, h2, rfl⟩) fun e H' ⟨v', h1, h2, h3⟩ => ?_
  obtain ⟨X', hw, ho⟩ := h2.o
  exact ⟨_, hw, X', v', h1, ho, rfl, h3⟩
theorem q_do (A : List Atom) (hb : BoO g S M K X) (hok : okS S) {x : AV} (hf : IntsAt ⟨M, K⟩ x.fv x.a.f) (hp : IntsAt ⟨M, K⟩ x.pv x.a.p)
    (hR : ∀ X' s, RowVal s 1 (ints (doS S x.a).2.2.1) → BoO g (doS S x.a).1 M (.row s 3 1 (ints (doS S x.a).2.2.1) :: K) X' → R (.returned (.tuple #[.int .i64 (doS S x.a).2.1, s, .int .i64 (doS S x.a).2.2.2])) ⟨M, A ++ X'⟩) :
    ACalls Try.prog 14 [ptr g, av x] ⟨M, A ++ X⟩ R := by
  refine ACalls.frame A (R' := fun e H' => ∃ X' s, RowVal s 1 (ints (doS S x.a).2.2.1) ∧ BoO g (doS S x.a).1 M (.row s 3 1 (ints (doS S x.a).2.2.1) :: K) X' ∧ H' = ⟨M, X'⟩ ∧ e = .returned (.tuple #[.int .i64 (doS S x.a).2.1, s, .int .i64 (doS S x.a).2.2.2])) ?_ fun e H' ⟨X', v', h1, h2, h3, h4⟩ => by subst h3 h4; exact hR X' v' h1 h2
  refine ACalls.post (R' := fun e H' => ∃ s, RowVal s 1 (ints (doS S x.a).2.2.1) ∧ Bo g (doS S x.a).1 M (.row s 3 1 (ints (doS S x.a).2.2.1) :: K) H' ∧ e = .returned (.tuple #[.int .i64 (doS S x.a).2.1, s, .int .i64 (doS S x.a).2.2.2]))
    (p_do hb.2 hok hf hp fun H' v' h1 h2 => ⟨v', h1, h2, rfl⟩) fun e H' ⟨v', h1, h2, h3⟩ => ?_
  obtain ⟨X', hw, ho⟩ := h2.o
  exact ⟨_, hw, X', v', h1, ho, rfl, h3⟩
end
/-- A slice of things of sz cells each. -/
theorem flatAt {α : Type} {sz : Nat} (f : α → List Value) (hf : ∀ x, (f x).length = sz) (h0 : 0 < sz) {H : Hp} {v : Value} {l : List α} (hr : Reads H v sz (l.flatMap f)) : ∃ p c, v = .slice p l.length c ∧
    ∀ k (hk : k < l.length), ∃ g o, p = some ⟨g, o, none⟩ ∧ CellsAt H g (o + k * sz) (f l[k]) := by
  have hlen : ∀ l : List α, (l.flatMap f).length = l.length * sz := fun l => by
    induction l with
    | nil => simp
    | cons a l ih => rw [List.flatMap_cons, List.length_append, ih, hf, List.length_cons, Nat.succ_mul]; omega
  have hcell : ∀ (l : List α) k (hk : k < l.length), ((l.flatMap f).drop (k * sz)).take sz = f l[k] := fun l => by
    induction l with
    | nil => intro k hk; simp at hk
    | cons a l ih =>
      intro k hk
      cases k with
      | zero => simp [List.flatMap_cons, ← hf a]
      | succ k =>
        have := ih k (by simpa using hk)
        rw [List.flatMap_cons, show (k + 1) * sz = (f a).length + k * sz by rw [Nat.succ_mul, hf]; omega, ← List.drop_drop, List.drop_left]
        simpa using this
  obtain ⟨p, n, c, rfl, hnc, hl, hc⟩ := hr
  rw [hlen] at hl
  have hn : n = l.length := (Nat.eq_of_mul_eq_mul_right h0 hl).symm
  subst hn
  refine ⟨p, c, rfl, fun k hk => ?_⟩
  obtain ⟨g, o, rfl, hcells⟩ := hc (by omega)
  have := hcell l k hk
  refine ⟨g, o, rfl, fun j v hj => ?_⟩
  rw [← this, List.getElem?_take] at hj
  split at hj
  · rw [List.getElem?_drop] at hj
    rw [Nat.add_assoc]; exact hcells _ _ hj
  · cases hj

/-! ### The plain law -/
structure InvR (S : St) : Prop where
  g : ∀ k : Nat, k < S.ts.length → (S.th k).u = true → ∀ x ∈ S.gone, x ∉ (S.th k).b
  f : ∀ k : Nat, k < S.ts.length → (S.th k).u = true → ∀ j ∈ (S.th k).f, (S.th j).u = true ∧ ∀ x ∈ (S.th j).b, x ∈ (S.th k).b
theorem okS.fk {S : St} (h : okS S) {k : Nat} (hk : k < S.ts.length) : ∀ j ∈ (S.th k).f, 0 ≤ j ∧ j < k := fun j hj => by
  have := (h.th _ _ (St.th_some (S := S) (i := k) (by omega) (by omega))).f
  have := (riseF_iff.1 this).2 j hj
  simp at this
  omega
theorem th_app {ts : List Th} {t : Th} {gone : List Int} {i : Int} (h : i.toNat < ts.length) : (⟨ts ++ [t], gone⟩ : St).th i = (⟨ts, gone⟩ : St).th i := by
  simp only [St.th, List.getD_eq_getElem?_getD, List.getElem?_append_left h]
theorem th_new {ts : List Th} {t : Th} {gone : List Int} : (⟨ts ++ [t], gone⟩ : St).th ts.length = t := by
  simp [St.th, List.getD_eq_getElem?_getD]
theorem th_set {ts : List Th} {t : Th} {gone : List Int} {k : Nat} {i : Int} (h : i.toNat ≠ k) : (⟨ts.set k t, gone⟩ : St).th i = (⟨ts, gone⟩ : St).th i := by
  simp only [St.th, List.getD_eq_getElem?_getD, List.getElem?_set_ne (Ne.symm h)]
theorem th_self {ts : List Th} {t : Th} {gone : List Int} {k : Nat} (h : k < ts.length) : (⟨ts.set k t, gone⟩ : St).th k = t := by
  simp [St.th, List.getD_eq_getElem?_getD, h]
theorem th_map {ts : List Th} {gone gone' : List Int} {x : Int} {i : Int} (h : i.toNat < ts.length) : (⟨ts.map (rmT x), gone'⟩ : St).th i = rmT x ((⟨ts, gone⟩ : St).th i) := by
  simp [St.th, List.getD_eq_getElem?_getD, h]
theorem rmT_f (x : Int) (t : Th) : (rmT x t).f = t.f ∧ (rmT x t).b = t.b := by unfold rmT; split <;> exact ⟨rfl, rfl⟩
theorem rmT_u {x : Int} {t : Th} : (rmT x t).u = true ↔ t.u = true ∧ x ∉ t.b := by
  unfold rmT; split <;> simp_all
theorem base_in {S : St} {f p : List Int} {j : Int} (hj : j ∈ f) : ∀ x ∈ (S.th j).b, x ∈ norm (baseL S f p) := fun x hx =>
  ((norm_inc _).2 x).2 (List.mem_append_right _ (List.mem_flatMap.2 ⟨j, hj, hx⟩))
theorem stale_no {S : St} {f : List Int} (h : staleS S f = false) {j : Int} (hj : j ∈ f) : (S.th j).u = true := by
  unfold staleS at h
  have := List.any_eq_false.1 h j hj
  simpa using this
/-- What an act that is done has changed. -/
structure Did (S S' : St) (a : A26) (n : Int) : Prop where
  inv : InvR S'
  new : a.k ≠ 1 → a.k ≠ 2 → S'.gone = S.gone ∧ S'.ts.length = S.ts.length + 1 ∧ n = S.ts.length ∧ (S'.th S.ts.length).f = a.f ∧ ∀ k : Nat, k < S.ts.length → (S'.th k).b = (S.th k).b ∧ (S'.th k).f = (S.th k).f
  rm : a.k = 1 → S'.gone = S.gone ++ [a.n] ∧ S'.ts.length = S.ts.length ∧ ∀ k : Nat, k < S.ts.length → (S'.th k).b = (S.th k).b ∧ (S'.th k).f = (S.th k).f
  rn : a.k = 2 → S'.gone = S.gone ∧ S'.ts.length = S.ts.length ∧ ∀ k : Nat, k < S.ts.length → ((k : Int) ≠ a.n → (S'.th k).b = (S.th k).b) ∧ (S'.th k).f = (S.th k).f
theorem do_no {S : St} {a : A26} (h : (doS S a).2.2.2 ≠ 0) : (doS S a).1 = S := by
  unfold doS rmS rnS mkS at *
  repeat' split
  all_goals first | rfl | (simp_all; done)
theorem new_inv {S : St} (hok : okS S) (hI : InvR S) {f p : List Int} (hf : riseF (-1) S.ts.length f = true) (hp : ∀ x ∈ p, x ∉ S.gone) (hs : staleS S f = false) :
    (∀ x ∈ S.gone, x ∉ norm (baseL S f p)) ∧ ∀ j ∈ f, (S.th j).u = true ∧ ∀ x ∈ (S.th j).b, x ∈ norm (baseL S f p) := by
  refine ⟨fun x hx hb => ?_, fun j hj => ⟨stale_no hs hj, base_in hj⟩⟩
  rcases List.mem_append.1 (((norm_inc _).2 x).1 hb) with h | h
  · exact hp x h hx
  · obtain ⟨j, hj, h⟩ := List.mem_flatMap.1 h
    have hr := (riseF_iff.1 hf).2 j hj
    obtain ⟨k, rfl⟩ : ∃ k : Nat, j = k := ⟨j.toNat, by omega⟩
    exact hI.g k (by omega) (stale_no hs hj) x hx h
theorem did {S : St} (hok : okS S) (hI : InvR S) {a : A26} (h : (doS S a).2.2.2 = 0) : Did S (doS S a).1 a (doS S a).2.1 := by
  unfold doS at *
  by_cases h1 : a.k = 1
  · rw [if_pos h1] at h ⊢
    unfold rmS at *
    split at h
    · simp at h
    · rename_i c1
      split at h
      · simp at h
      · rename_i c2
        rw [if_neg c1, if_neg c2]
        have hth : ∀ i : Int, i.toNat < S.ts.length → (⟨S.ts.map (rmT a.n), S.gone ++ [a.n]⟩ : St).th i = rmT a.n (S.th i) := fun i hi => th_map (gone := S.gone) hi
        have hl : (⟨S.ts.map (rmT a.n), S.gone ++ [a.n]⟩ : St).ts.length = S.ts.length := by simp
        refine ⟨⟨fun k hk hu x hx => ?_, fun k hk hu j hj => ?_⟩, fun h => absurd h1 h, fun _ => ⟨rfl, hl, fun k hk => ?_⟩, fun h => by omega⟩
        · rw [hl] at hk
          rw [hth k (by omega)] at hu ⊢
          rw [(rmT_f _ _).2]
          obtain ⟨hu1, hu2⟩ := rmT_u.1 hu
          rcases List.mem_append.1 hx with hx | hx
          · exact hI.g k hk hu1 x hx
          · rw [List.mem_singleton.1 hx]; exact hu2
        · rw [hl] at hk
          rw [hth k (by omega)] at hu hj ⊢
          rw [(rmT_f _ _).1] at hj
          rw [(rmT_f _ _).2]
          obtain ⟨hu1, hu2⟩ := rmT_u.1 hu
          have hjb := hok.fk hk j hj
          rw [hth j (by omega), (rmT_f _ _).2]
          obtain ⟨h3, h4⟩ := hI.f k hk hu1 j hj
          exact ⟨rmT_u.2 ⟨h3, fun h => hu2 (h4 _ h)⟩, h4⟩
        · rw [hth k (by omega)]; exact ⟨(rmT_f _ _).2, (rmT_f _ _).1⟩
  · rw [if_neg h1] at h ⊢
    by_cases h2 : a.k = 2
    · rw [if_pos h2] at h ⊢
      unfold rnS at *
      split at h
      · simp at h
      · rename_i c1
        split at h
        · simp at h
        · rename_i c2
          split at h
          · simp at h
          · rename_i c3
            rw [if_neg c1, if_neg c2, if_neg c3]
            obtain ⟨m, hm⟩ : ∃ m : Nat, a.n = m := ⟨a.n.toNat, by omega⟩
            rw [hm] at c1 c2 c3 ⊢
            have hmn : m < S.ts.length := by omega
            have hl : (⟨S.ts.set ((m : Int)).toNat (rnT S (S.th m)), S.gone⟩ : St).ts.length = S.ts.length := by simp
            have hne : ∀ i : Int, i.toNat ≠ m → (⟨S.ts.set ((m : Int)).toNat (rnT S (S.th m)), S.gone⟩ : St).th i = S.th i := fun i hi => th_set hi
            have hself : (⟨S.ts.set ((m : Int)).toNat (rnT S (S.th m)), S.gone⟩ : St).th m = rnT S (S.th m) := th_self hmn
            have hfm := hok.fk hmn
            have hnew := new_inv hok hI (f := (S.th m).f) (p := (S.th m).p.filter fun x => !decide (x ∈ S.gone)) (riseF_mono (hok.th _ _ (St.th_some (S := S) (i := m) (by omega) (by omega))).f (by simp; omega)) (fun x hx => by simpa using (List.mem_filter.1 hx).2) (by simpa using c3)
            refine ⟨⟨fun k hk hu x hx => ?_, fun k hk hu j hj => ?_⟩, fun _ h => absurd h2 h, fun h => absurd h h1, fun _ => ⟨rfl, hl, fun k hk => ?_⟩⟩
            · rw [hl] at hk
              by_cases hkm : k = m
              · subst hkm; rw [hself]; exact hnew.1 x hx
              · rw [hne k (by omega)] at hu ⊢; exact hI.g k hk hu x hx
            · rw [hl] at hk
              by_cases hkm : k = m
              · subst hkm
                rw [hself] at hj ⊢
                have := hfm j hj
                rw [hne j (by omega)]
                exact hnew.2 j hj
              · rw [hne k (by omega)] at hu hj ⊢
                have := hok.fk hk j hj
                have h5 := hI.f k hk hu j hj
                have hjm : j.toNat ≠ m := fun e => by
                  have : j = m := by omega
                  rw [this] at h5
                  exact c2 h5.1
                rw [hne j hjm]
                exact h5
            · by_cases hkm : k = m
              · subst hkm; exact ⟨fun h => absurd hm.symm h, by rw [hself]; rfl⟩
              · rw [hne k (by omega)]; exact ⟨fun _ => rfl, rfl⟩
    · rw [if_neg h2] at h ⊢
      unfold mkS at *
      split at h
      · simp at h
      · rename_i c1
        split at h
        · simp at h
        · rename_i c2
          split at h
          · simp at h
          · rename_i c3
            split at h
            · simp at h
            · rename_i c4
              rw [if_neg c1, if_neg c2, if_neg c3, if_neg c4]
              have hl : (⟨S.ts ++ [⟨a.f, a.p, norm (baseL S a.f a.p), true⟩], S.gone⟩ : St).ts.length = S.ts.length + 1 := by simp
              have hold : ∀ i : Int, i.toNat < S.ts.length → (⟨S.ts ++ [⟨a.f, a.p, norm (baseL S a.f a.p), true⟩], S.gone⟩ : St).th i = S.th i := fun i hi => th_app hi
              have hself : (⟨S.ts ++ [⟨a.f, a.p, norm (baseL S a.f a.p), true⟩], S.gone⟩ : St).th S.ts.length = ⟨a.f, a.p, norm (baseL S a.f a.p), true⟩ := th_new
              have hf : riseF (-1) S.ts.length a.f = true := by cases hh : riseF (-1) S.ts.length a.f <;> simp_all
              have hp : ∀ x ∈ a.p, x ∉ S.gone := fun x hx hg => c3 (List.any_eq_true.2 ⟨x, hx, by simpa using hg⟩)
              have hnew := new_inv hok hI hf hp (by simpa using c4)
              refine ⟨⟨fun k hk hu x hx => ?_, fun k hk hu j hj => ?_⟩, fun _ _ => ⟨rfl, hl, rfl, by rw [hself], fun k hk => ?_⟩, fun h => absurd h h1, fun h => absurd h h2⟩
              · rw [hl] at hk
                by_cases hkm : k = S.ts.length
                · subst hkm; rw [hself]; exact hnew.1 x hx
                · rw [hold k (by omega)] at hu ⊢; exact hI.g k (by omega) hu x hx
              · rw [hl] at hk
                by_cases hkm : k = S.ts.length
                · subst hkm
                  rw [hself] at hj ⊢
                  have := (riseF_iff.1 hf).2 j hj
                  rw [hold j (by omega)]
                  exact hnew.2 j hj
                · rw [hold k (by omega)] at hu hj ⊢
                  have := hok.fk (k := k) (by omega) j hj
                  rw [hold j (by omega)]
                  exact hI.f k (by omega) hu j hj
              · rw [hold k (by omega)]; exact ⟨rfl, rfl⟩
/-- A base holds that of what it depends on. -/
theorem both_len {a b : List Int} (ha : Inc a) (h : ∀ x ∈ b, x ∈ a) : norm (a ++ b) = a := norm_eq ha fun x => by
  rw [List.mem_append]; exact ⟨.inl, fun h' => h'.elim id (h x)⟩
end Go.Proofs.Ytjgljgkfflojbaa.A
