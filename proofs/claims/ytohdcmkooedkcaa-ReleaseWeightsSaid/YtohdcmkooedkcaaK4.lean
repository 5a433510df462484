/- Rows of things of several cells; small lemmas on slices. -/
import Derived.Test.YtohdcmkooedkcaaK1
namespace Go.Proofs.Ytohdcmkooedkcaa.A
open Go Go.RowKit
set_option linter.unusedVariables false
set_option linter.unusedSimpArgs false

/-- A slice of things of sz cells each. -/
theorem flatAt {α : Type} {sz : Nat} (f : α → List Value) (hf : ∀ x, (f x).length = sz) (h0 : 0 < sz) {H : Hp} {v : Value} {l : List α} (hr : Reads H v sz (l.flatMap f)) : ∃ p c, v = .slice p l.length c ∧
    ∀ k (hk : k < l.length), ∃ g o, p = some ⟨g, o, none⟩ ∧ CellsAt H g (o + k * sz) (f l[k]) := by
  have hlen : ∀ l : List α, (l.flatMap f).length = l.length * sz := fun l => by
    induction l with
    | nil => simp
    | cons a l ih => rw [List.flatMap_cons, List.length_append, ih, hf, List.length_cons, Nat.succ_mul]; omega
  have hcell : ∀ (l : List α) k (hk : k < l.length), ((l.flatMap f).drop (k * sz)).take sz = f l[k] := fun l => by
    induction l with
    | nil => intro k hk; simp at hk
    | cons a l ih =>
      intro k hk
      cases k with
      | zero => simp [List.flatMap_cons, ← hf a]
      | succ k =>
        have := ih k (by simpa using hk)
        rw [List.flatMap_cons, show (k + 1) * sz = (f a).length + k * sz by rw [Nat.succ_mul, hf]; omega, ← List.drop_drop, List.drop_left]
        simpa using this
  obtain ⟨p, n, c, rfl, hnc, hl, hc⟩ := hr
  rw [hlen] at hl
  have hn : n = l.length := (Nat.eq_of_mul_eq_mul_right h0 hl).symm
  subst hn
  refine ⟨p, c, rfl, fun k hk => ?_⟩
  obtain ⟨g, o, rfl, hcells⟩ := hc (by omega)
  have := hcell l k hk
  refine ⟨g, o, rfl, fun j v hj => ?_⟩
  rw [← this, List.getElem?_take] at hj
  split at hj
  · rw [List.getElem?_drop] at hj
    rw [Nat.add_assoc]; exact hcells _ _ hj
  · cases hj

theorem vals_flat (l : List Value) : l.flatMap (fun v => [v]) = l := by induction l with
  | nil => rfl
  | cons a l ih => simp [ih]
theorem RowVal.sl {v : Value} {l : List Int} (h : RowVal v 1 (ints l)) : ∃ p c, v = .slice p l.length c := by
  rcases h with ⟨rfl, h⟩ | ⟨g, o, n, cap, rfl, h, _, _⟩
  · have := congrArg List.length h
    rw [ints_length] at this
    exact ⟨none, 0, by rw [show l.length = 0 from this]⟩
  · rw [ints_length] at h
    exact ⟨_, _, by rw [show l.length = n by omega]⟩
theorem cellsDrop {H : Hp} {g o : Nat} {vs : List Value} (h : CellsAt H g o vs) (n : Nat) : CellsAt H g (o + n) (vs.drop n) := fun j v hj => by
  rw [List.getElem?_drop] at hj
  rw [Nat.add_assoc]; exact h _ _ hj
theorem hle_one {M : Nat → Option Obj} {a : Atom} {L : List Atom} (h : a ∈ L) : HLe ⟨M, [a]⟩ ⟨M, L⟩ := hle_sub fun b hb => List.mem_singleton.1 hb ▸ h
theorem RowVal.cnt {v : Value} {sz : Nat} {xs : List Value} (h : RowVal v sz xs) (h0 : 0 < sz) {k : Nat} (hk : xs.length = k * sz) : ∃ p c, v = .slice p k c := by
  rcases h with ⟨rfl, rfl⟩ | ⟨g, o, n, c, rfl, h1, _, _⟩
  · have : k = 0 := by
      rcases Nat.eq_zero_or_pos k with h | h
      · exact h
      · have := Nat.mul_pos h h0
        simp at hk; omega
    subst this; exact ⟨_, _, rfl⟩
  · have := Nat.eq_of_mul_eq_mul_right h0 (h1.symm.trans hk)
    subst this; exact ⟨_, _, rfl⟩
theorem Reads.slice {H : Hp} {v : Value} {sz : Nat} {xs : List Value} (h : Reads H v sz xs) : ∃ p n c, v = .slice p n c := by
  obtain ⟨p, n, c, rfl, _⟩ := h
  exact ⟨_, _, _, rfl⟩
theorem Weak.appL {M : Nat → Option Obj} {X X' : List Atom} (h : Weak ⟨M, X⟩ ⟨M, X'⟩) : ∀ A : List Atom, Weak ⟨M, A ++ X⟩ ⟨M, A ++ X'⟩
  | [] => h
  | a :: A => Weak.cons (Weak.appL h A)
/-- Fewer things of a row of sz cells each. -/
theorem weakPrefixN {M : Nat → Option Obj} {L : List Atom} {g o n c k sz : Nat} {e : TypeId} {xs : List Value} (hk : k ≤ n) : Weak ⟨M, .row (.slice (some ⟨g, o, none⟩) n c) e sz xs :: L⟩ ⟨M, .row (.slice (some ⟨g, o, none⟩) k c) e sz (xs.take (k * sz)) :: L⟩ := by
  intro w0 F w hr
  have hrow := hr.holds (.row (.slice (some ⟨g, o, none⟩) n c) e sz xs) (by simp)
  rcases hrow with ⟨h, _⟩ | ⟨g', o', n', cap, cs, h, hh, hnc, hcm, hoc, hlen, hcell⟩
  · cases h
  cases h
  have hkn := Nat.mul_le_mul_right sz hk
  have := Rep.replace (a' := .row (.slice (some ⟨g, o, none⟩) k c) e sz (xs.take (k * sz))) hr (i := 0) (w' := w) rfl (Keeps.refl _ w) (.inr ⟨g, o, k, c, cs, rfl, hh, by omega, hcm, hoc, by rw [List.length_take]; omega, fun i hi => ?_⟩) (fun k hk => .inl hk)
  · exact this
  · rw [List.length_take] at hi
    rw [hcell i (by omega), List.getElem?_take, if_pos (by omega)]
/-- A store into a row that changes. -/
theorem stWR {S L : List Atom} {g o o' n cap e sz : Nat} {xs xs' vs : List Value} {Φ : List Atom → Prop} (i : Nat) (h : L[i]? = some (.row (.slice (some ⟨g, o', none⟩) n cap) e sz xs)) (k : Nat) (hk : o = o' + k) (hl : k + vs.length ≤ xs.length)
    (h1 : oneCells vs) (hx : setN xs k vs = xs') (hΦ : Φ (S ++ L.set i (.row (.slice (some ⟨g, o', none⟩) n cap) e sz xs'))) : oneCells vs ∧ ∃ L', StoreTo (S ++ L) g o vs L' ∧ Φ L' := by
  refine stW (n := n) (cap := cap) (e := e) (sz := sz) (S.length + i) ?_ k hk hl h1 hx ?_
  · rw [List.getElem?_append_right (by omega), Nat.add_sub_cancel_left]; exact h
  · rw [List.set_append_right _ _ (by omega), Nat.add_sub_cancel_left]; exact hΦ
end Go.Proofs.Ytohdcmkooedkcaa.A
