/- Increasing lists; the state of a book of consent. -/
import Derived.Test.YtjgljgkfflojbaaKP
import Derived.Test.YtjgljgkfflojbaaKC
import Derived.Test.YtjgljgkfflojbaaKI
namespace Go.Proofs.Ytjgljgkfflojbaa.A
open Go Go.RowKit
set_option linter.unusedVariables false
set_option linter.unusedSimpArgs false

def norm (l : List Int) : List Int := cmpL (srt l)
theorem cmp_inv (d : Array Int) (hs : ∀ i j, i ≤ j → j < d.size → d[i]! ≤ d[j]!) : ∀ m, m ≤ d.size → Inc (Go.Lib.compactUpTo d m) ∧ ∀ x, x ∈ Go.Lib.compactUpTo d m ↔ ∃ j, j < m ∧ d[j]! = x
  | 0, _ => ⟨by simp [Go.Lib.compactUpTo], by simp [Go.Lib.compactUpTo]⟩
  | m + 1, h => by
    obtain ⟨h1, h2⟩ := cmp_inv d hs m (by omega)
    rw [Go.Lib.compactUpTo_succ]
    by_cases hk : Go.Lib.keeps d m = true
    · rw [if_pos hk]
      have hlt : ∀ x ∈ Go.Lib.compactUpTo d m, x < d[m]! := fun x hx => by
        obtain ⟨j, hj, rfl⟩ := (h2 x).1 hx
        have hne : d[m]! ≠ d[m - 1]! := by
          simp only [Go.Lib.keeps, decide_eq_true_eq] at hk
          rcases hk with e | e
          · omega
          · exact e
        have h3 := hs j (m - 1) (by omega) (by omega)
        have h4 := hs (m - 1) m (by omega) (by omega)
        omega
      refine ⟨List.pairwise_append.2 ⟨h1, List.pairwise_singleton _ _, fun a ha b hb => by rw [List.mem_singleton.1 hb]; exact hlt a ha⟩, fun x => ?_⟩
      rw [List.mem_append, h2, List.mem_singleton]
      constructor
      · rintro (⟨j, hj, e⟩ | e)
        · exact ⟨j, by omega, e⟩
        · exact ⟨m, by omega, e.symm⟩
      · rintro ⟨j, hj, e⟩
        by_cases hjm : j = m
        · subst hjm; exact .inr e.symm
        · exact .inl ⟨j, by omega, e⟩
    · rw [if_neg hk, List.append_nil]
      refine ⟨h1, fun x => ?_⟩
      rw [h2]
      have hm0 : m ≠ 0 ∧ d[m]! = d[m - 1]! := by
        simp only [Go.Lib.keeps, decide_eq_true_eq, not_or, Classical.not_not] at hk
        exact hk
      constructor
      · rintro ⟨j, hj, e⟩; exact ⟨j, by omega, e⟩
      · rintro ⟨j, hj, e⟩
        by_cases hjm : j = m
        · subst hjm; exact ⟨j - 1, by omega, by rw [← hm0.2]; exact e⟩
        · exact ⟨j, by omega, e⟩
theorem get_toArray {l : List Int} {i : Nat} (h : i < l.length) : l.toArray[i]! = l[i] := by
  rw [getElem!_pos l.toArray i (by simpa using h)]
  simp
theorem norm_inc (l : List Int) : Inc (norm l) ∧ ∀ x, x ∈ norm l ↔ x ∈ l := by
  have hs := srt_sorted l
  have h := cmp_inv (srt l).toArray (fun i j hij hj => by
    have hj' : j < (srt l).length := by simpa using hj
    rw [get_toArray (show i < (srt l).length by omega), get_toArray hj']
    rcases Nat.lt_or_eq_of_le hij with h | h
    · exact List.pairwise_iff_getElem.1 hs i j (by omega) hj' h
    · subst h; exact Int.le_refl _) (srt l).length (by simp)
  refine ⟨h.1, fun x => (h.2 x).trans ?_⟩
  rw [← mem_srt l x]
  constructor
  · rintro ⟨j, hj, rfl⟩; rw [get_toArray hj]; exact List.getElem_mem hj
  · intro hx
    obtain ⟨j, hj, rfl⟩ := List.getElem_of_mem hx
    exact ⟨j, hj, get_toArray hj⟩
theorem norm_eq {l m : List Int} (h : Inc m) (hm : ∀ x, x ∈ m ↔ x ∈ l) : norm l = m := inc_ext (norm_inc l).1 h fun x => ((norm_inc l).2 x).trans (hm x).symm

/-- What 'rising' computes. -/
def riseF (last : Int) (n : Int) : List Int → Bool
  | [] => true
  | v :: r => if v ≤ last ∨ v ≥ n then false else riseF v n r
theorem riseF_iff {n : Int} : ∀ {l : List Int} {last : Int}, riseF last n l = true ↔ Inc l ∧ ∀ x ∈ l, last < x ∧ x < n
  | [], last => by simp [riseF]
  | v :: r, last => by
    unfold riseF
    split
    · rename_i h
      constructor
      · intro h'; cases h'
      · rintro ⟨_, h2⟩
        have := h2 v List.mem_cons_self
        omega
    · rename_i h
      rw [riseF_iff (l := r)]
      constructor
      · rintro ⟨h1, h2⟩
        refine ⟨List.pairwise_cons.2 ⟨fun x hx => (h2 x hx).1, h1⟩, fun x hx => ?_⟩
        rcases List.mem_cons.1 hx with rfl | hx
        · omega
        · have := h2 x hx; omega
      · rintro ⟨h1, h2⟩
        obtain ⟨h3, h4⟩ := List.pairwise_cons.1 h1
        exact ⟨h4, fun x hx => ⟨h3 x hx, (h2 x (List.mem_cons_of_mem _ hx)).2⟩⟩

/-! ### The state of a book -/
structure Th where
  f : List Int
  p : List Int
  b : List Int
  u : Bool
structure St where
  ts : List Th
  gone : List Int
def St.th (S : St) (i : Int) : Th := S.ts.getD i.toNat ⟨[], [], [], true⟩
def staleS (S : St) (l : List Int) : Bool := l.any fun i => !(S.th i).u
def baseL (S : St) (f p : List Int) : List Int := p ++ f.flatMap fun i => (S.th i).b
def mkS (S : St) (f p : List Int) : St × Int × Int :=
  if S.ts.length ≥ 256 ∨ p.length > 512 then (S, 0, 4) else
  if riseF (-1) S.ts.length f = false ∨ riseF (-1) 65536 p = false then (S, 0, 1) else
  if (p.any fun x => decide (x ∈ S.gone)) = true then (S, 0, 24) else
  if staleS S f = true then (S, 0, 17) else
  (⟨S.ts ++ [⟨f, p, norm (baseL S f p), true⟩], S.gone⟩, S.ts.length, 0)
def rmT (x : Int) (t : Th) : Th := if x ∈ t.b then { t with u := false } else t
def rmL (S : St) (x : Int) : List Int := ((List.range S.ts.length).filter fun i : Nat => decide (x ∈ (S.th i).b)).map fun i : Nat => (i : Int)
def rmS (S : St) (x : Int) : St × List Int × Int :=
  if x < 0 ∨ x ≥ 65536 then (S, [], 5) else
  if x ∈ S.gone then (S, [], 7) else
  (⟨S.ts.map (rmT x), S.gone ++ [x]⟩, rmL S x, 0)
def rnT (S : St) (t : Th) : Th := ⟨t.f, t.p.filter fun x => !decide (x ∈ S.gone), norm (baseL S t.f (t.p.filter fun x => !decide (x ∈ S.gone))), true⟩
def rnS (S : St) (i : Int) : St × Int :=
  if i < 0 ∨ i ≥ S.ts.length then (S, 6) else
  if (S.th i).u = true then (S, 8) else
  if staleS S (S.th i).f = true then (S, 17) else
  (⟨S.ts.set i.toNat (rnT S (S.th i)), S.gone⟩, 0)
structure okTh (n : Nat) (t : Th) : Prop where
  f : riseF (-1) n t.f = true
  p : riseF (-1) 65536 t.p = true
  pl : t.p.length ≤ 512
  b : Inc t.b
  bb : ∀ x ∈ t.b, 0 ≤ x ∧ x < 65536
structure okS (S : St) : Prop where
  n : S.ts.length ≤ 256
  th : ∀ (i : Nat) (t : Th), S.ts[i]? = some t → okTh i t
  gone : ∀ x ∈ S.gone, 0 ≤ x ∧ x < 65536
  nd : S.gone.Nodup
end Go.Proofs.Ytjgljgkfflojbaa.A
