/- The ground of the proofs: worlds told by a list of blocks that the calls own and a map of blocks that nobody writes, and Hoare triples over them. -/
import Derived.Below
import Derived.Deep.Draws
import Derived.Defers
import Derived.Laws.OwnMore
import Derived.Laws.AppendOwn
import Derived.Deep.Quiet
namespace Go.Proofs.Ytohdcmkooedkcaa.A
open Go Go.RowKit
set_option linter.unusedVariables false
set_option linter.unusedSimpArgs false

/-- A piece of memory that belongs to the call: a slice with its own block (or nil), a block of cells, another object. -/
inductive Atom where
  | row (v : Value) (e : TypeId) (sz : Nat) (xs : List Value)
  | cells (g : Nat) (e : TypeId) (cs : List Value)
  | obj (g : Nat) (o : Obj)

/-- M: the blocks that stay as they are. L: what is owned. -/
structure Hp where
  M : Nat → Option Obj
  L : List Atom

def Atom.foot : Atom → Option Nat
  | .row (.slice (some a) _ _) _ _ _ => some a.block
  | .row _ _ _ _ => none
  | .cells g _ _ => some g
  | .obj g _ => some g

/-- The shape of a slice's value over its cells. -/
def RowVal (v : Value) (sz : Nat) (xs : List Value) : Prop :=
  (v = .slice none 0 0 ∧ xs = []) ∨ ∃ g o n cap, v = .slice (some ⟨g, o, none⟩) n cap ∧ xs.length = n * sz ∧ n ≤ cap ∧ cap ≤ maxLen

def Atom.holds (w : World) : Atom → Prop
  | .row v e sz xs => (v = .slice none 0 0 ∧ xs = []) ∨
      ∃ g o n cap c, v = .slice (some ⟨g, o, none⟩) n cap ∧ w.heap[g]? = some (.cells c e (0, 0)) ∧ n ≤ cap ∧ cap ≤ maxLen ∧ o + cap * sz ≤ c.size ∧
        xs.length = n * sz ∧ ∀ i, i < xs.length → c[o + i]? = xs[i]?
  | .cells g e cs => w.heap[g]? = some (.cells cs.toArray e (0, 0))
  | .obj g o => w.heap[g]? = some o

theorem Atom.holds_rowVal {w : World} {v : Value} {e : TypeId} {sz : Nat} {xs : List Value} (h : (Atom.row v e sz xs).holds w) : RowVal v sz xs := by
  rcases h with h | ⟨g, o, n, cap, c, h1, _, h2, h3, _, h4, _⟩
  · exact .inl h
  · exact .inr ⟨g, o, n, cap, h1, h4, h2, h3⟩

theorem Atom.foot_lt {w : World} {a : Atom} (h : a.holds w) {g : Nat} (hg : a.foot = some g) : g < w.heap.size := by
  have key : ∀ (k : Nat) (o : Obj), w.heap[k]? = some o → k < w.heap.size := fun k o hk => (Array.getElem?_eq_some_iff.1 hk).1
  cases a with
  | row v e sz xs =>
    rcases h with ⟨rfl, _⟩ | ⟨g', o, n, cap, c, rfl, hh, _⟩
    · simp [Atom.foot] at hg
    · simp only [Atom.foot, Option.some.injEq] at hg; subst hg; exact key _ _ hh
  | cells g' e cs => simp only [Atom.foot, Option.some.injEq] at hg; subst hg; exact key _ _ h
  | obj g' o => simp only [Atom.foot, Option.some.injEq] at hg; subst hg; exact key _ _ h

theorem Atom.holds_of {w w' : World} {a : Atom} (h : a.holds w) (hb : ∀ g, a.foot = some g → w'.heap[g]? = w.heap[g]?) : a.holds w' := by
  cases a with
  | row v e sz xs =>
    rcases h with h | ⟨g', o, n, cap, c, rfl, hh, r⟩
    · exact .inl h
    · exact .inr ⟨g', o, n, cap, c, rfl, by rw [hb g' rfl]; exact hh, r⟩
  | cells g' e cs => exact (hb g' rfl).trans h
  | obj g' o => exact (hb g' rfl).trans h

/-- The world w is told by H; below w0's blocks it is as w0 was. -/
structure Rep (w0 : World) (H : Hp) (w : World) : Prop where
  below : Below w0.heap.size w0 w
  M : ∀ g o, H.M g = some o → w.heap[g]? = some o
  holds : ∀ a ∈ H.L, a.holds w
  low : ∀ a ∈ H.L, ∀ g, a.foot = some g → w0.heap.size ≤ g ∧ H.M g = none
  apart : H.L.Pairwise fun a b => ∀ g, a.foot = some g → b.foot ≠ some g

/-- The same, with a frame of which nothing is told. -/
def RepF (w0 : World) (F : List Atom) (H : Hp) (w : World) : Prop := Rep w0 ⟨H.M, H.L ++ F⟩ w

/-- Only blocks of S may have turned; new ones may have come. -/
structure Keeps (S : Nat → Prop) (w w' : World) : Prop where
  os : w'.os = w.os
  tape : w'.tape = w.tape
  output : w'.output = w.output
  size : w.heap.size ≤ w'.heap.size
  block : ∀ k, k < w.heap.size → ¬ S k → w'.heap[k]? = w.heap[k]?

theorem Keeps.refl (S : Nat → Prop) (w : World) : Keeps S w w := ⟨rfl, rfl, rfl, Nat.le_refl _, fun _ _ _ => rfl⟩
theorem Keeps.trans {S : Nat → Prop} {a b c : World} (h : Keeps S a b) (k : Keeps S b c) : Keeps S a c :=
  ⟨k.os.trans h.os, k.tape.trans h.tape, k.output.trans h.output, Nat.le_trans h.size k.size, fun i hi hs => (k.block i (Nat.lt_of_lt_of_le hi h.size) hs).trans (h.block i hi hs)⟩
theorem Keeps.alloc (S : Nat → Prop) (w : World) (o : Obj) : Keeps S w (w.alloc o) := ⟨rfl, rfl, rfl, by simp, fun k hk _ => Below.heap_alloc _ _ _ hk⟩
theorem Keeps.drew (S : Nat → Prop) (w : World) : Keeps S w w.drew := ⟨rfl, rfl, rfl, by simp, fun k hk _ => rfl⟩
theorem Keeps.setCell (w : World) (a : Addr) (v : Value) : Keeps (fun k => k = a.block) w (w.setCell a v) :=
  ⟨rfl, rfl, rfl, by simp, fun k _ h => Below.heap_setCell _ _ _ _ h⟩
theorem Keeps.mono {S S' : Nat → Prop} {w w' : World} (h : Keeps S w w') (hs : ∀ k, S k → S' k) : Keeps S' w w' :=
  ⟨h.os, h.tape, h.output, h.size, fun k hk hn => h.block k hk fun hS => hn (hs k hS)⟩
theorem Keeps.of_grown {w w' : World} {row : Option Nat} (h : w.grownBy w' row) : Keeps (fun k => row = some k) w w' :=
  ⟨h.os, h.tape, h.output, h.size, fun k hk hn => h.block k hk fun e => hn e.symm⟩

theorem Rep.M_lt {w0 w : World} {H : Hp} (h : Rep w0 H w) {g : Nat} {o : Obj} (hg : H.M g = some o) : g < w.heap.size :=
  (Array.getElem?_eq_some_iff.1 (h.M g o hg)).1

theorem Rep.base_le {w0 w : World} {H : Hp} (h : Rep w0 H w) : w0.heap.size ≤ w.heap.size := h.below.size

theorem below_of_keeps {w0 w w' : World} {S : Nat → Prop} (h : Below w0.heap.size w0 w) (hk : Keeps S w w') (hs : ∀ k, S k → w0.heap.size ≤ k) : Below w0.heap.size w0 w' :=
  ⟨hk.os.trans h.os, hk.tape.trans h.tape, hk.output.trans h.output, Nat.le_trans h.size hk.size,
    fun k hlt => (hk.block k (Nat.lt_of_lt_of_le hlt h.size) (fun e => absurd (hs k e) (by omega))).trans (h.block k hlt)⟩

/-- Nothing that is told has turned. -/
theorem Rep.keep {w0 w w' : World} {H : Hp} (h : Rep w0 H w) (hk : Keeps (fun _ => False) w w') : Rep w0 H w' where
  below := below_of_keeps h.below hk (fun _ e => e.elim)
  M g o hg := (hk.block g (h.M_lt hg) id).trans (h.M g o hg)
  holds a ha := Atom.holds_of (h.holds a ha) fun g hg => hk.block g (Atom.foot_lt (h.holds a ha) hg) id
  low := h.low
  apart := h.apart

/-- Something new has come. -/
theorem Rep.add {w0 w w' : World} {M : Nat → Option Obj} {L : List Atom} (h : Rep w0 ⟨M, L⟩ w) (hk : Keeps (fun _ => False) w w') {a : Atom} (ha : a.holds w')
    (hf : ∀ g, a.foot = some g → w.heap.size ≤ g) : Rep w0 ⟨M, a :: L⟩ w' := by
  have h' := h.keep hk
  refine ⟨h'.below, h'.M, ?_, ?_, ?_⟩
  · intro b hb
    rcases List.mem_cons.1 hb with rfl | hb
    · exact ha
    · exact h'.holds b hb
  · intro b hb g hg
    rcases List.mem_cons.1 hb with rfl | hb
    · have := hf g hg
      have h1 : w0.heap.size ≤ w.heap.size := h.below.size
      refine ⟨by omega, ?_⟩
      cases hm : M g with
      | none => exact hm
      | some o => have := h.M_lt (H := ⟨M, L⟩) hm; omega
    · exact h'.low b hb g hg
  · refine List.Pairwise.cons ?_ h'.apart
    intro b hb g hg hg'
    have := hf g hg
    have := Atom.foot_lt (h.holds b hb) hg'
    omega

theorem mem_set_cases {α : Type} {l : List α} {i : Nat} {a b : α} (h : b ∈ l.set i a) : b = a ∨ ∃ j, j ≠ i ∧ l[j]? = some b := by
  obtain ⟨j, hj, rfl⟩ := List.getElem_of_mem h
  by_cases hji : i = j
  · subst hji; left; simp
  · right
    refine ⟨j, fun e => hji e.symm, ?_⟩
    have hj' : j < l.length := by simpa using hj
    rw [List.getElem_set_ne hji]
    exact List.getElem?_eq_getElem hj'

theorem apart_iff {L : List Atom} : (L.Pairwise fun a b => ∀ g, a.foot = some g → b.foot ≠ some g) ↔
    ∀ (i j : Nat) (a b : Atom), i ≠ j → L[i]? = some a → L[j]? = some b → ∀ g, a.foot = some g → b.foot ≠ some g := by
  rw [List.pairwise_iff_getElem]
  constructor
  · intro h i j a b hij ha hb g hg hg'
    obtain ⟨hi, rfl⟩ := List.getElem?_eq_some_iff.1 ha
    obtain ⟨hj, rfl⟩ := List.getElem?_eq_some_iff.1 hb
    rcases Nat.lt_or_gt_of_ne hij with h1 | h1
    · exact h i j hi hj h1 g hg hg'
    · exact h j i hj hi h1 g hg' hg
  · intro h i j hi hj hij g hg
    exact h i j _ _ (by omega) (List.getElem?_eq_getElem hi) (List.getElem?_eq_getElem hj) g hg

/-- One piece has turned, in its own block or into a new one. -/
theorem Rep.replace {w0 w w' : World} {M : Nat → Option Obj} {L : List Atom} (h : Rep w0 ⟨M, L⟩ w) {i : Nat} {a a' : Atom} (hi : L[i]? = some a)
    (hk : Keeps (fun k => a.foot = some k) w w') (ha : a'.holds w') (hf : ∀ g, a'.foot = some g → a.foot = some g ∨ w.heap.size ≤ g) : Rep w0 ⟨M, L.set i a'⟩ w' := by
  have hmem : a ∈ L := List.mem_of_getElem? hi
  have hother : ∀ j b, j ≠ i → L[j]? = some b → ∀ g, b.foot = some g → w'.heap[g]? = w.heap[g]? := fun j b hj hb g hg =>
    hk.block g (Atom.foot_lt (h.holds b (List.mem_of_getElem? hb)) hg) fun e => (apart_iff.1 h.apart) i j a b (Ne.symm hj) hi hb g e hg
  refine ⟨below_of_keeps h.below hk fun k e => (h.low a hmem k e).1, ?_, ?_, ?_, ?_⟩
  · intro g o hg
    refine (hk.block g (h.M_lt hg) fun e => ?_).trans (h.M g o hg)
    have h3 : M g = none := (h.low a hmem g e).2
    rw [show M g = some o from hg] at h3
    cases h3
  · intro b hb
    rcases mem_set_cases hb with rfl | ⟨j, hj, hb⟩
    · exact ha
    · exact Atom.holds_of (h.holds b (List.mem_of_getElem? hb)) fun g hg => hother j b hj hb g hg
  · intro b hb g hg
    rcases mem_set_cases hb with rfl | ⟨j, hj, hb⟩
    · rcases hf g hg with h1 | h1
      · exact h.low a hmem g h1
      · have h2 : w0.heap.size ≤ w.heap.size := h.below.size
        refine ⟨by omega, ?_⟩
        cases hm : M g with
        | none => exact hm
        | some o => have := h.M_lt (H := ⟨M, L⟩) hm; omega
    · exact h.low b (List.mem_of_getElem? hb) g hg
  · rw [apart_iff]
    have hlt : i < L.length := (List.getElem?_eq_some_iff.1 hi).1
    have key : ∀ (j : Nat) (b : Atom), j ≠ i → L[j]? = some b → ∀ g, a'.foot = some g → b.foot ≠ some g := by
      intro j b hj hb g hg hg'
      rcases hf g hg with h1 | h1
      · exact (apart_iff.1 h.apart) i j a b (Ne.symm hj) hi hb g h1 hg'
      · have := Atom.foot_lt (h.holds b (List.mem_of_getElem? hb)) hg'
        omega
    intro j k b c hjk hb hc g hg hg'
    rw [List.getElem?_set] at hb hc
    by_cases hj : i = j
    · subst hj
      rw [if_pos rfl, if_pos hlt] at hb
      obtain rfl := Option.some.inj hb
      rw [if_neg hjk] at hc
      exact key k c (Ne.symm hjk) hc g hg hg'
    · rw [if_neg hj] at hb
      by_cases hk' : i = k
      · subst hk'
        rw [if_pos rfl, if_pos hlt] at hc
        obtain rfl := Option.some.inj hc
        exact key j b hjk hb g hg' hg
      · rw [if_neg hk'] at hc
        exact (apart_iff.1 h.apart) j k b c hjk hb hc g hg hg'

theorem Rep.perm {w0 w : World} {M : Nat → Option Obj} {L L' : List Atom} (h : Rep w0 ⟨M, L⟩ w) (hp : L.Perm L') : Rep w0 ⟨M, L'⟩ w where
  below := h.below
  M := h.M
  holds a ha := h.holds a (hp.mem_iff.2 ha)
  low a ha := h.low a (hp.mem_iff.2 ha)
  apart := (hp.pairwise_iff fun {a b} hab g hg hg' => hab g hg' hg).1 h.apart

theorem Rep.drop {w0 w : World} {M : Nat → Option Obj} {L : List Atom} {a : Atom} (h : Rep w0 ⟨M, a :: L⟩ w) : Rep w0 ⟨M, L⟩ w where
  below := h.below
  M := h.M
  holds b hb := h.holds b (List.mem_cons_of_mem _ hb)
  low b hb := h.low b (List.mem_cons_of_mem _ hb)
  apart := (List.pairwise_cons.1 h.apart).2

/-- What is owned is given up: it stays as it is from now on. -/
theorem Rep.freeze {w0 w : World} {M : Nat → Option Obj} {L : List Atom} {a : Atom} {g : Nat} {o : Obj} (h : Rep w0 ⟨M, a :: L⟩ w) (hf : a.foot = some g) (ho : w.heap[g]? = some o) :
    Rep w0 ⟨fun k => if k = g then some o else M k, L⟩ w where
  below := h.below
  M k p hk := by
    simp only at hk
    split at hk
    · subst_vars; rw [ho]; exact hk
    · exact h.M k p hk
  holds b hb := h.holds b (List.mem_cons_of_mem _ hb)
  low b hb k hk := by
    have h1 := h.low b (List.mem_cons_of_mem _ hb) k hk
    have h2 := (List.pairwise_cons.1 h.apart).1 b hb g hf
    refine ⟨h1.1, ?_⟩
    simp only
    rw [if_neg (fun e : k = g => h2 (by rw [← e]; exact hk))]
    exact h1.2
  apart := (List.pairwise_cons.1 h.apart).2

/-! ### Weakening -/
def Weak (H H' : Hp) : Prop := ∀ w0 F w, RepF w0 F H w → RepF w0 F H' w
theorem Weak.refl (H : Hp) : Weak H H := fun _ _ _ h => h
theorem Weak.trans {A B C : Hp} (h : Weak A B) (k : Weak B C) : Weak A C := fun w0 F w r => k w0 F w (h w0 F w r)
theorem Weak.perm {M : Nat → Option Obj} {L L' : List Atom} (hp : L.Perm L') : Weak ⟨M, L⟩ ⟨M, L'⟩ := fun _ F _ h => Rep.perm h (hp.append_right F)
theorem Weak.drop (M : Nat → Option Obj) (a : Atom) (L : List Atom) : Weak ⟨M, a :: L⟩ ⟨M, L⟩ := fun _ _ _ h => Rep.drop h
theorem Weak.dropAll (M : Nat → Option Obj) (l L : List Atom) : Weak ⟨M, l ++ L⟩ ⟨M, L⟩ := by
  induction l with
  | nil => exact Weak.refl _
  | cons a l ih => exact (Weak.drop M a (l ++ L)).trans ih
theorem Weak.cons {M : Nat → Option Obj} {a : Atom} {L L' : List Atom} (h : Weak ⟨M, L⟩ ⟨M, L'⟩) : Weak ⟨M, a :: L⟩ ⟨M, a :: L'⟩ := by
  intro w0 F w hr
  have h1 : Rep w0 ⟨M, L ++ (a :: F)⟩ w := Rep.perm hr (List.perm_middle (l₁ := L) (l₂ := F) (a := a)).symm
  have h2 := h w0 (a :: F) w h1
  exact Rep.perm h2 (List.perm_middle (l₁ := L') (l₂ := F) (a := a))
/-- The front piece is turned into another one that holds where it did, in the same block. -/
theorem Weak.turn {M : Nat → Option Obj} {a a' : Atom} {L : List Atom} (h : ∀ w, a.holds w → a'.holds w) (hf : ∀ g, a'.foot = some g → a.foot = some g) : Weak ⟨M, a :: L⟩ ⟨M, a' :: L⟩ := by
  intro w0 F w hr
  have hr' : Rep w0 ⟨M, a :: (L ++ F)⟩ w := hr
  exact Rep.replace (i := 0) hr' rfl (Keeps.refl _ w) (h w (hr'.holds a (List.mem_cons_self ..))) fun g hg => .inl (hf g hg)

end Go.Proofs.Ytohdcmkooedkcaa.A
