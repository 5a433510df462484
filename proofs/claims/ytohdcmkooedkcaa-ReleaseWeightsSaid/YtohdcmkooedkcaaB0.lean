/- Small words and lemmas for walks. -/
import Derived.Test.YtohdcmkooedkcaaAT
namespace Go.Proofs.Ytohdcmkooedkcaa.A
open Go Go.RowKit
set_option linter.unusedVariables false
set_option linter.unusedSimpArgs false

abbrev I64 (n : Int) : Prop := -9223372036854775808 ≤ n ∧ n ≤ 9223372036854775807
theorem wi {n : Int} (h : I64 n) : n = IntKind.i64.wrap n := by
  simp [IntKind.wrap, IntKind.bits, IntKind.signed]; omega
abbrev U64 (n : Int) : Prop := 0 ≤ n ∧ n ≤ 18446744073709551615
theorem wu {n : Int} (h : U64 n) : n = IntKind.u64.wrap n := by
  simp [IntKind.wrap, IntKind.bits, IntKind.signed]; omega
/-- A walk's end: what is asked of the caller. -/
theorem fin {H H' : Hp} {R : Ending → Hp → Prop} {e : Ending} (hw : Weak H H') (hR : R e H') : ∃ H', Weak H H' ∧ R e H' := ⟨H', hw, hR⟩

/-! ### Lists of ints in memory -/
def ints (l : List Int) : List Value := l.map (Value.int .i64)
theorem ints_length (l : List Int) : (ints l).length = l.length := by simp [ints]
theorem ints_append (l m : List Int) : ints (l ++ m) = ints l ++ ints m := by simp [ints]
theorem ints_one (l : List Int) : ∀ u ∈ ints l, u.oneCell' = true := by
  intro u hu
  simp only [ints, List.mem_map] at hu
  obtain ⟨a, _, rfl⟩ := hu
  rfl
def geti (l : List Int) (i : Int) : Int := l.getD i.toNat 0
theorem geti_mem {l : List Int} {i : Int} (h0 : 0 ≤ i) (h1 : i < l.length) : geti l i ∈ l := by
  have : i.toNat < l.length := by omega
  simp [geti, List.getD_eq_getElem?_getD, List.getElem?_eq_getElem this]
/-- A slice of ints, each a Go int. -/
structure IntsAt (H : Hp) (v : Value) (l : List Int) : Prop where
  reads : Reads H v 1 (ints l)
  fit : ∀ x ∈ l, I64 x
  len : (l.length : Int) ≤ 4611686018427387904
theorem IntsAt.open {H : Hp} {v : Value} {l : List Int} (h : IntsAt H v l) : ∃ p c, v = .slice p l.length c ∧ l.length ≤ c ∧
    ∀ i : Int, 0 ≤ i → i < l.length → ∃ g o, p = some ⟨g, o, none⟩ ∧ H.cell g (o + i.toNat * 1) (.int .i64 (geti l i)) := by
  obtain ⟨p, n, c, rfl, hnc, hl, hc⟩ := h.reads
  rw [ints_length, Nat.mul_one] at hl
  subst hl
  refine ⟨p, c, rfl, hnc, fun i h0 h1 => ?_⟩
  obtain ⟨g, o, rfl, hcells⟩ := hc (by omega)
  refine ⟨g, o, rfl, ?_⟩
  rw [Nat.mul_one]
  have hlt : i.toNat < l.length := by omega
  refine hcells i.toNat _ ?_
  simp [ints, geti, List.getD_eq_getElem?_getD, List.getElem?_eq_getElem hlt]
theorem IntsAt.get {H : Hp} {v : Value} {l : List Int} (h : IntsAt H v l) {i : Int} (h0 : 0 ≤ i) (h1 : i < l.length) : I64 (geti l i) := h.fit _ (geti_mem h0 h1)

/-! ### Loads and stores at pieces that are owned -/
section
variable {H : Hp} {L : List Atom} {M : Nat → Option Obj} {g o n : Nat} {e : TypeId} {cs vs : List Value} {v : Value}
/-- A whole block of cells. -/
theorem ldA {Φ : List Value → Prop} (i : Nat) (h : H.L[i]? = some (.cells g e cs)) (hl : cs.length = n) (hΦ : Φ cs) : ∃ vs, vs.length = n ∧ CellsAt H g 0 vs ∧ Φ vs :=
  ⟨cs, hl, fun j v hj => .inr ⟨_, List.mem_of_getElem? h, rfl, by simpa using hj⟩, hΦ⟩
/-- A part of a block. -/
theorem ldP {Φ : List Value → Prop} (i : Nat) (h : H.L[i]? = some (.cells g e cs)) (hv : (cs.drop o).take n = vs) (hl : vs.length = n) (hΦ : Φ vs) : ∃ vs, vs.length = n ∧ CellsAt H g o vs ∧ Φ vs :=
  ⟨vs, hl, fun j v hj => .inr ⟨_, List.mem_of_getElem? h, rfl, by
    subst hv
    have hlt : j < n := by
      have := (List.getElem?_eq_some_iff.1 hj).1
      omega
    rw [List.getElem?_take, if_pos hlt, List.getElem?_drop] at hj
    exact hj⟩, hΦ⟩
/-- One cell. -/
theorem ldS {Φ : Value → Prop} (i : Nat) (h : H.L[i]? = some (.cells g e cs)) (hv : cs[o]? = some v) (hΦ : Φ v) : ∃ v, H.cell g o v ∧ Φ v :=
  ⟨v, .inr ⟨_, List.mem_of_getElem? h, rfl, hv⟩, hΦ⟩
theorem stC {Φ : List Atom → Prop} (i : Nat) (h : L[i]? = some (.cells g e cs)) (hl : Nat.ble (o + vs.length) cs.length = true) (h1 : oneCells vs) (hΦ : Φ (L.set i (.cells g e (setN cs o vs)))) :
    oneCells vs ∧ ∃ L', StoreTo L g o vs L' ∧ Φ L' := ⟨h1, _, .inl ⟨i, e, cs, h, Nat.le_of_ble_eq_true hl, rfl⟩, hΦ⟩
theorem stR {S : List Atom} {Φ : List Atom → Prop} (i : Nat) (h : L[i]? = some (.cells g e cs)) (hl : Nat.ble (o + vs.length) cs.length = true) (h1 : oneCells vs) (hΦ : Φ (S ++ L.set i (.cells g e (setN cs o vs)))) :
    oneCells vs ∧ ∃ L', StoreTo (S ++ L) g o vs L' ∧ Φ L' := by
  refine ⟨h1, _, .inl ⟨S.length + i, e, cs, ?_, Nat.le_of_ble_eq_true hl, rfl⟩, ?_⟩
  · rw [List.getElem?_append_right (by omega), Nat.add_sub_cancel_left]; exact h
  · rw [List.set_append_right _ _ (by omega), Nat.add_sub_cancel_left]; exact hΦ
theorem weakK {L' : List Atom} (k : Nat) (h : L.drop k = L') : Weak ⟨M, L⟩ ⟨M, L'⟩ := by
  subst h
  have : Weak ⟨M, L.take k ++ L.drop k⟩ ⟨M, L.drop k⟩ := Weak.dropAll M _ _
  rwa [List.take_append_drop] at this
end

/-- The pieces with these numbers come first, one after the other; each number counts in what is left. -/
def pull : List Nat → List Atom → List Atom
  | [], L => L
  | i :: is, L => match L[i]? with
    | some a => a :: pull is (L.eraseIdx i)
    | none => L
theorem erase_perm : ∀ {L : List Atom} {i : Nat} {a : Atom}, L[i]? = some a → L.Perm (a :: L.eraseIdx i)
  | [], i, a, h => by simp at h
  | b :: L, 0, a, h => by simp at h; subst h; exact List.Perm.refl _
  | b :: L, i + 1, a, h => ((erase_perm (L := L) (i := i) (a := a) (by simpa using h)).cons b).trans (List.Perm.swap ..)
theorem pull_perm : ∀ (is : List Nat) (L : List Atom), L.Perm (pull is L)
  | [], L => List.Perm.refl _
  | i :: is, L => by
    unfold pull
    split
    · rename_i a ha
      exact (erase_perm ha).trans ((pull_perm is (L.eraseIdx i)).cons _)
    · exact List.Perm.refl _
theorem weakPull {M : Nat → Option Obj} {L L' : List Atom} (is : List Nat) (h : pull is L = L') : Weak ⟨M, L⟩ ⟨M, L'⟩ := by
  subst h; exact Weak.perm (pull_perm is L)
theorem weakDel {M : Nat → Option Obj} {L L' : List Atom} (i : Nat) (h : L.eraseIdx i = L') : Weak ⟨M, L⟩ ⟨M, L'⟩ := by
  subst h
  by_cases hi : i < L.length
  · exact (Weak.perm (erase_perm (List.getElem?_eq_getElem hi))).trans (Weak.drop M _ _)
  · rw [List.eraseIdx_of_length_le (by omega)]; exact Weak.refl _

/-! ### What is kept when the heap grows -/
def HLe (H H' : Hp) : Prop := ∀ g i v, H.cell g i v → H'.cell g i v
theorem HLe.refl (H : Hp) : HLe H H := fun _ _ _ h => h
theorem HLe.trans {A B C : Hp} (h : HLe A B) (k : HLe B C) : HLe A C := fun g i v x => k g i v (h g i v x)
theorem HLe.cons (H : Hp) (a : Atom) : HLe H ⟨H.M, a :: H.L⟩ := fun g i v h => by
  rcases h with h | ⟨b, hb, h⟩
  · exact .inl h
  · exact .inr ⟨b, List.mem_cons_of_mem _ hb, h⟩
theorem Reads.mono {H H' : Hp} {x : Value} {sz : Nat} {xs : List Value} (h : Reads H x sz xs) (hl : HLe H H') : Reads H' x sz xs := by
  obtain ⟨p, n, c, e, h1, h2, h3⟩ := h
  refine ⟨p, n, c, e, h1, h2, fun h0 => ?_⟩
  obtain ⟨g, o, e, hc⟩ := h3 h0
  exact ⟨g, o, e, fun j v hj => hl _ _ _ (hc j v hj)⟩
theorem IntsAt.mono {H H' : Hp} {v : Value} {l : List Int} (h : IntsAt H v l) (hl : HLe H H') : IntsAt H' v l := ⟨h.reads.mono hl, h.fit, h.len⟩

end Go.Proofs.Ytohdcmkooedkcaa.A
