/- release: tables in plain words. -/
import Derived.Test.YtohdcmkooedkcaaKS
import Derived.Test.YtohdcmkooedkcaaK4
namespace Go.Proofs.Ytohdcmkooedkcaa.A
open Go Go.RowKit
set_option linter.unusedVariables false
set_option linter.unusedSimpArgs false
set_option maxRecDepth 20000

structure Rw where
  p : Int
  vs : List Int
structure Tb where
  sizes : List Int
  rows : List Rw
def badSz (n : Int) : Bool := decide (n < 1 ∨ n > 12)
def badVal (sz : List Int) (r : Rw) (k : Nat) : Bool := decide (geti r.vs k < 0 ∨ geti r.vs k ≥ geti sz k)
def badRw (sz : List Int) (r : Rw) : Bool := decide (r.p < 0 ∨ r.p > 65535 ∨ r.vs.length ≠ sz.length) || (List.range r.vs.length).any (badVal sz r)
def Tb.ps (t : Tb) : List Int := t.rows.map (·.p)
def validT (t : Tb) : Int :=
  if t.sizes.length > 8 ∨ t.rows.length > 64 then 4 else
  if t.sizes.any badSz = true then 1 else
  if t.rows.any (badRw t.sizes) = true then 1 else
  if t.ps.Nodup then 0 else 7
structure okTb (t : Tb) : Prop where
  sl : t.sizes.length ≤ 1000
  si : ∀ n ∈ t.sizes, I64 n
  rl : t.rows.length ≤ 1000
  rp : ∀ r ∈ t.rows, I64 r.p
  rvl : ∀ r ∈ t.rows, r.vs.length ≤ 1000
  ri : ∀ r ∈ t.rows, ∀ n ∈ r.vs, I64 n

/-! ### In memory -/
structure RV where
  v : Value
  r : Rw
def rvc (x : RV) : List Value := [.int .i64 x.r.p, x.v]
def rvs (l : List RV) : List Value := l.flatMap rvc
theorem rvs_append (l m : List RV) : rvs (l ++ m) = rvs l ++ rvs m := by simp [rvs]
theorem rvs_length (l : List RV) : (rvs l).length = l.length * 2 := by
  induction l with
  | nil => rfl
  | cons c cs ih => simp only [rvs, List.flatMap_cons, List.length_append, List.length_cons] at *; rw [ih]; simp [rvc]; omega
def tbOf (sz : List Int) (rs : List RV) : Tb := ⟨sz, rs.map (·.r)⟩
theorem tbOf_rows (sz : List Int) (rs : List RV) : (tbOf sz rs).rows.length = rs.length := by simp [tbOf]
/-- A table: the slices of its sizes and of its rows. -/
structure TbAt (H : Hp) (sv rv : Value) (sz : List Int) (rs : List RV) : Prop where
  s : Reads H sv 1 (ints sz)
  r : Reads H rv 2 (rvs rs)
  v : ∀ x ∈ rs, Reads H x.v 1 (ints x.r.vs)
theorem TbAt.mono {H H' : Hp} {sv rv : Value} {sz : List Int} {rs : List RV} (h : TbAt H sv rv sz rs) (hl : HLe H H') : TbAt H' sv rv sz rs := ⟨h.s.mono hl, h.r.mono hl, fun x hx => (h.v x hx).mono hl⟩
theorem rvAt {H : Hp} {v : Value} {rs : List RV} (hr : Reads H v 2 (rvs rs)) : ∃ p c, v = .slice p rs.length c ∧ ∀ k (hk : k < rs.length), ∃ g o, p = some ⟨g, o, none⟩ ∧ CellsAt H g (o + k * 2) (rvc rs[k]) :=
  flatAt rvc (fun _ => rfl) (by omega) hr
theorem rvs_one {H : Hp} {rs : List RV} (h : ∀ x ∈ rs, Reads H x.v 1 (ints x.r.vs)) : ∀ u ∈ rvs rs, u.oneCell' = true := fun u hu => by
  obtain ⟨x, hx, hu⟩ := List.mem_flatMap.1 hu
  obtain ⟨_, _, _, e1⟩ := (h x hx).slice
  simp only [rvc, e1, List.mem_cons, List.not_mem_nil, or_false] at hu
  rcases hu with rfl | rfl <;> rfl
theorem okTb.row {sz : List Int} {rs : List RV} (h : okTb (tbOf sz rs)) {x : RV} (hx : x ∈ rs) : I64 x.r.p ∧ x.r.vs.length ≤ 1000 ∧ ∀ n ∈ x.r.vs, I64 n := by
  have hm : x.r ∈ (tbOf sz rs).rows := List.mem_map.2 ⟨x, hx, rfl⟩
  exact ⟨h.rp _ hm, h.rvl _ hm, h.ri _ hm⟩
theorem ps_tb (sz : List Int) (rs : List RV) : (tbOf sz rs).ps = rs.map (·.r.p) := by simp [Tb.ps, tbOf, List.map_map]

/-! ### A set of numbers as a map -/
def bmap (l : List Int) : List (Int × Value) := l.map fun x => (x, .bool true)
def addS (l : List Int) (x : Int) : List Int := if x ∈ l then l else l ++ [x]
theorem mUpd_bmap {x : Int} : ∀ {l : List Int}, mUpd (bmap l) x (.bool true) = bmap (addS l x)
  | [] => rfl
  | a :: l => by
    have ih := mUpd_bmap (x := x) (l := l)
    show (if a = x then _ else _) = _
    by_cases h : a = x
    · subst h
      rw [if_pos rfl]
      simp [addS, bmap]
    · rw [if_neg h]
      show _ :: mUpd (bmap l) x (.bool true) = _
      rw [ih]
      unfold addS
      by_cases hx : x ∈ l
      · rw [if_pos hx, if_pos (List.mem_cons_of_mem _ hx)]; rfl
      · rw [if_neg hx, if_neg (by intro h'; rcases List.mem_cons.1 h' with e | e; exact h e.symm; exact hx e)]; rfl
theorem mLook_bmap (x : Int) : ∀ l : List Int, (mLook (bmap l) x).getD (.bool false) = .bool (decide (x ∈ l))
  | [] => rfl
  | a :: l => by
    have ih := mLook_bmap x l
    unfold mLook bmap at *
    rw [List.map_cons, List.find?_cons]
    by_cases h : a = x
    · subst h; simp
    · have h' : ¬ x = a := fun e => h e.symm
      simp only [h, decide_false]
      rw [ih]
      congr 1
      simp [h']
def setOf (l : List Int) : List Int := l.foldl addS []
theorem foldl_addS (l : List Int) : ∀ acc : List Int, acc.Nodup → (l.foldl addS acc).Nodup ∧ (∀ x, x ∈ l.foldl addS acc ↔ x ∈ acc ∨ x ∈ l) ∧ (l.foldl addS acc).length ≤ acc.length + l.length ∧ ((l.foldl addS acc).length = acc.length + l.length ↔ (l.Nodup ∧ ∀ x ∈ l, x ∉ acc)) := by
  induction l with
  | nil => intro acc h; exact ⟨h, by simp, by simp, by simp⟩
  | cons a l ih =>
    intro acc h
    have h1 : (addS acc a).Nodup := by
      unfold addS
      split
      · exact h
      · rename_i ha
        exact List.nodup_append.2 ⟨h, by simp, fun x hx y hy => by rw [List.mem_singleton.1 hy]; exact fun e => ha (e ▸ hx)⟩
    have hm : ∀ x, x ∈ addS acc a ↔ x ∈ acc ∨ x = a := fun x => by
      unfold addS
      split
      · rename_i ha; exact ⟨.inl, fun h => h.elim id fun e => e ▸ ha⟩
      · simp
    have hl : (addS acc a).length ≤ acc.length + 1 ∧ ((addS acc a).length = acc.length + 1 ↔ a ∉ acc) := by
      unfold addS
      split
      · rename_i ha; exact ⟨by omega, by simp [ha]⟩
      · rename_i ha; exact ⟨by simp, by simp [ha]⟩
    obtain ⟨i1, i2, i3, i4⟩ := ih (addS acc a) h1
    simp only [List.foldl_cons, List.length_cons]
    refine ⟨i1, fun x => ?_, by omega, ?_⟩
    · rw [i2, hm, List.mem_cons]
      constructor
      · rintro ((h | h) | h)
        · exact .inl h
        · exact .inr (.inl h)
        · exact .inr (.inr h)
      · rintro (h | h | h)
        · exact .inl (.inl h)
        · exact .inl (.inr h)
        · exact .inr h
    · rw [List.nodup_cons]
      constructor
      · intro he
        have e1 : (addS acc a).length = acc.length + 1 := by omega
        have e2 := hl.2.1 e1
        obtain ⟨n1, n2⟩ := i4.1 (by omega)
        refine ⟨⟨fun ha => n2 a ha ((hm a).2 (.inr rfl)), n1⟩, fun x hx => ?_⟩
        rcases List.mem_cons.1 hx with e | hx
        · rw [e]; exact e2
        · exact fun hxa => n2 x hx ((hm x).2 (.inl hxa))
      · rintro ⟨⟨n1, n2⟩, n3⟩
        have e2 := n3 a List.mem_cons_self
        have e1 := hl.2.2 e2
        have := i4.2 ⟨n2, fun x hx hxa => by
          rcases (hm x).1 hxa with h | h
          · exact n3 x (List.mem_cons_of_mem _ hx) h
          · exact n1 (h ▸ hx)⟩
        omega
theorem setOf_len (l : List Int) : (setOf l).length ≤ l.length ∧ ((setOf l).length < l.length ↔ ¬ l.Nodup) := by
  obtain ⟨_, _, h3, h4⟩ := foldl_addS l [] (by simp)
  simp at h3 h4
  unfold setOf
  refine ⟨h3, ?_⟩
  rw [← h4]
  omega
theorem setOf_snoc (l : List Int) (x : Int) : setOf (l ++ [x]) = addS (setOf l) x := by simp [setOf]
end Go.Proofs.Ytohdcmkooedkcaa.A
