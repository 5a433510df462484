/- Operations that only compute and read give one value, whatever the order: what is asked of them can be asked of that value. -/
import Derived.Test.YtohdcmkooedkcaaA8
namespace Go.Proofs.Ytohdcmkooedkcaa.A
open Go Go.RowKit
set_option linter.unusedVariables false
set_option linter.unusedSimpArgs false

section
variable {P : Program} {H : Hp} {T : Tab} {K' : Value → Prop}

theorem tyF_mk : ∀ {T : Tab} {t : Nat} {i : TI} {K : TI → Prop}, T[t]? = some (some i) → K i → tyF T t K
  | [], t, i, K, h, _ => by simp at h
  | none :: r, 0, i, K, h, _ => by simp at h
  | some j :: r, 0, i, K, h, k => by simp at h; subst h; exact k
  | none :: r, t + 1, i, K, h, k => tyF_mk (T := r) (t := t) (by simpa using h) k
  | some _ :: r, t + 1, i, K, h, k => tyF_mk (T := r) (t := t) (by simpa using h) k
theorem nthG_mk {α : Type} : ∀ {l : List α} {n : Nat} {v : α} {K : α → Prop}, l[n]? = some v → K v → nthG l n K
  | [], n, v, K, h, _ => by simp at h
  | x :: l, 0, v, K, h, k => by simp at h; subst h; exact k
  | x :: l, n + 1, v, K, h, k => nthG_mk (l := l) (n := n) (by simpa using h) k
theorem ifC_mk {b : Bool} {A B : Prop} (h : (b = true ∧ A) ∨ (b = false ∧ B)) : ifC b A B := by
  rcases h with ⟨rfl, h⟩ | ⟨rfl, h⟩ <;> exact h

theorem shiftF_ext {op : BinOp} {k : IntKind} {m n : Int} (h : shiftF op k m n K') : ∃ v, K' v ∧ shiftF op k m n (· = v) := by
  cases op <;> first
    | exact h.elim
    | (obtain ⟨h0, r, hr, h⟩ := h; exact ⟨_, h, h0, r, hr, rfl⟩)
theorem intBinF_ext {op : BinOp} {k : IntKind} {m n : Int} (h : intBinF op k m n K') : ∃ v, K' v ∧ intBinF op k m n (· = v) := by
  cases op <;> first
    | exact (show False from h).elim
    | exact ⟨_, h, rfl⟩
    | (obtain ⟨r, hr, h⟩ := h; exact ⟨_, h, r, hr, rfl⟩)
    | (obtain ⟨h0, r, hr, h⟩ := h; exact ⟨_, h, h0, r, hr, rfl⟩)
theorem eqB_ext {op : BinOp} {b : Bool} (h : eqB op b K') : ∃ v, K' v ∧ eqB op b (· = v) := by
  cases op <;> first
    | exact (show False from h).elim
    | exact ⟨_, h, rfl⟩
theorem binF_ext {op : BinOp} {t : Nat} {x y : Value} (h : binF T op t x y K') : ∃ v, K' v ∧ binF T op t x y (· = v) := by
  unfold binF at h
  split at h
  · rcases ifC_out h with ⟨h1, h2⟩ | ⟨h1, h2⟩
    · obtain ⟨v, hv, h3⟩ := shiftF_ext h2
      exact ⟨v, hv, ifC_mk (.inl ⟨h1, h3⟩)⟩
    · rcases ifC_out h2 with ⟨h3, h4⟩ | ⟨_, h4⟩
      · obtain ⟨v, hv, h5⟩ := intBinF_ext h4
        exact ⟨v, hv, ifC_mk (.inr ⟨h1, ifC_mk (.inl ⟨h3, h5⟩)⟩)⟩
      · exact h4.elim
  all_goals first
    | exact (show False from h).elim
    | (obtain ⟨i, hi, h1⟩ := tyF_get h
       split at h1
       · rename_i hd
         obtain ⟨v, hv, h2⟩ := eqB_ext h1
         refine ⟨v, hv, tyF_mk hi ?_⟩
         simp only [hd]
         exact h2
       · exact h1.elim)
    | (obtain ⟨i, hi, h1⟩ := tyF_get h
       rcases ifC_out h1 with ⟨h2, h3⟩ | ⟨_, h3⟩
       · obtain ⟨a, b, c, d, e1, e2, h4⟩ := eqCellsF_ok h3
         obtain ⟨v, hv, h5⟩ := eqB_ext h4
         refine ⟨v, hv, tyF_mk hi (ifC_mk (.inl ⟨h2, ?_⟩))⟩
         rw [e1, e2]
         exact h5
       · exact h3.elim)
theorem unF_ext {op : UnOp} {x : Value} (h : unF op x K') : ∃ v, K' v ∧ unF op x (· = v) := by
  unfold unF at h
  split at h
  · obtain ⟨r, hr, h⟩ := h; exact ⟨_, h, r, hr, rfl⟩
  · exact ⟨_, h, rfl⟩
  · exact h.elim
theorem convF_ext {s d : Nat} {x : Value} (h : convF T s d x K') : ∃ v, K' v ∧ convF T s d x (· = v) := by
  unfold convF at h
  obtain ⟨i, hi, h1⟩ := tyF_get h
  obtain ⟨j, hj, h2⟩ := tyF_get h1
  split at h2
  · rename_i e1 e2
    obtain ⟨r, hr, h⟩ := h2
    refine ⟨_, h, tyF_mk hi (tyF_mk hj ?_)⟩
    simp only [e1, e2]
    exact ⟨r, hr, rfl⟩
  · exact h2.elim
theorem nilCheckF_ext {x : Value} (h : nilCheckF x K') : ∃ v, K' v ∧ nilCheckF x (· = v) := by
  unfold nilCheckF at h
  split at h
  · exact ⟨_, h, rfl⟩
  · exact ⟨_, h, rfl⟩
  · exact h.elim
theorem fieldAddrF_ext {t : Nat} {x : Value} {f : Nat} (h : fieldAddrF T t x f K') : ∃ v, K' v ∧ fieldAddrF T t x f (· = v) := by
  unfold fieldAddrF at h
  obtain ⟨i, hi, h1⟩ := tyF_get h
  split at h1
  · rename_i hd
    obtain ⟨p, hp, h2⟩ := nthG_get h1
    refine ⟨_, h2, tyF_mk hi ?_⟩
    simp only [hd]
    exact nthG_mk hp rfl
  · exact h1.elim
theorem partF_ext {a : Bool} {s o : Nat} {cs : List Value} (h : partF a s o cs K') : ∃ v, K' v ∧ partF a s o cs (· = v) := by
  unfold partF at h
  rcases ifC_out h with ⟨ha, h⟩ | ⟨ha, h⟩
  · rw [dropF_iff, takeF_iff] at h
    exact ⟨_, h, ifC_mk (.inl ⟨ha, by rw [dropF_iff, takeF_iff]⟩)⟩
  · obtain ⟨v, hv, h⟩ := nthG_get h
    exact ⟨v, h, ifC_mk (.inr ⟨ha, nthG_mk hv rfl⟩)⟩
theorem fieldF_ext {t : Nat} {x : Value} {f : Nat} (h : fieldF T t x f K') : ∃ v, K' v ∧ fieldF T t x f (· = v) := by
  unfold fieldF at h
  obtain ⟨i, hi, h1⟩ := tyF_get h
  split at h1
  · rename_i hd
    obtain ⟨p, hp, h2⟩ := nthG_get h1
    obtain ⟨v, hv, h3⟩ := partF_ext h2
    refine ⟨_, hv, tyF_mk hi ?_⟩
    simp only [hd]
    exact nthG_mk hp h3
  · exact h1.elim
theorem indexAddrF_ext {t : Nat} {x j : Value} (h : indexAddrF T t x j K') : ∃ v, K' v ∧ indexAddrF T t x j (· = v) := by
  unfold indexAddrF at h
  obtain ⟨i, hi, h1⟩ := tyF_get h
  split at h1
  · rename_i hd
    obtain ⟨g, o, hp, hb, h2⟩ := h1
    refine ⟨_, h2, tyF_mk hi ?_⟩
    simp only [hd]
    exact ⟨g, o, hp, hb, rfl⟩
  · rename_i hd
    obtain ⟨hb, h2⟩ := h1
    refine ⟨_, h2, tyF_mk hi ?_⟩
    simp only [hd]
    exact ⟨hb, by trivial⟩
  · exact h1.elim
theorem indexF_ext {t : Nat} {x j : Value} (h : indexF T t x j K') : ∃ v, K' v ∧ indexF T t x j (· = v) := by
  unfold indexF at h
  obtain ⟨i, hi, h1⟩ := tyF_get h
  split at h1
  · rename_i hd
    obtain ⟨hb, h2⟩ := h1
    obtain ⟨v, hv, h3⟩ := partF_ext h2
    refine ⟨_, hv, tyF_mk hi ?_⟩
    simp only [hd]
    exact ⟨hb, h3⟩
  · exact h1.elim
theorem boundF_ext {x : Option Value} {d hi : Nat} {K : Nat → Prop} (h : boundF x d hi K) : ∃ l, K l ∧ boundF x d hi (· = l) := by
  unfold boundF at h
  split at h
  · exact ⟨d, h, rfl⟩
  · obtain ⟨l, h1, h2, h3⟩ := h
    exact ⟨l, h3, l, h1, h2, rfl⟩
  · exact h.elim
theorem boundF_mono {x : Option Value} {d hi : Nat} {K K2 : Nat → Prop} (h : boundF x d hi K) (hk : ∀ l, K l → K2 l) : boundF x d hi K2 := by
  unfold boundF at h ⊢
  split at h
  · exact hk _ h
  · obtain ⟨l, h1, h2, h3⟩ := h; exact ⟨l, h1, h2, hk _ h3⟩
  · exact h.elim
theorem sliceF_ext {t : Nat} {x : Value} {lo hi mx : Option Value} (h : sliceF T t x lo hi mx K') : ∃ v, K' v ∧ sliceF T t x lo hi mx (· = v) := by
  unfold sliceF at h
  obtain ⟨i, hi', h1⟩ := tyF_get h
  split at h1
  · rename_i hd
    split at h1
    · exact h1.elim
    · rename_i hne
      obtain ⟨m, h2, hm⟩ := boundF_ext h1
      obtain ⟨u, h3, hu⟩ := boundF_ext h2
      obtain ⟨l, h4, hl⟩ := boundF_ext h3
      refine ⟨_, h4, tyF_mk hi' ?_⟩
      simp only [hd]
      exact boundF_mono hm fun m' e => by subst e; exact boundF_mono hu fun u' e => by subst e; exact boundF_mono hl fun l' e => by subst e; rfl
  · exact h1.elim
theorem loadF_ext {t : Nat} {x : Value} (h : loadF T t x H K') : ∃ v, K' v ∧ loadF T t x H (· = v) := by
  unfold loadF at h
  obtain ⟨i, hi, h1⟩ := tyF_get h
  split at h1
  · rcases ifC_out h1 with ⟨ha, vs, hl, hc, h2⟩ | ⟨ha, v, hc, h2⟩
    · exact ⟨_, h2, tyF_mk hi (ifC_mk (.inl ⟨ha, vs, hl, hc, rfl⟩))⟩
    · exact ⟨_, h2, tyF_mk hi (ifC_mk (.inr ⟨ha, v, hc, rfl⟩))⟩
  · exact h1.elim
theorem lookupF_ext {t : Nat} {m k : Value} {ok : Bool} (h : lookupF T t m k ok H K') : ∃ v, K' v ∧ lookupF T t m k ok H (· = v) := by
  unfold lookupF at h
  obtain ⟨i, hi, h1⟩ := tyF_get h
  split at h1
  · rename_i hd
    obtain ⟨es, hm, h2⟩ := h1
    rcases ifC_out h2 with ⟨ha, h3⟩ | ⟨ha, h3⟩
    · refine ⟨_, h3, tyF_mk hi ?_⟩; simp only [hd]; exact ⟨es, hm, ifC_mk (.inl ⟨ha, by trivial⟩)⟩
    · refine ⟨_, h3, tyF_mk hi ?_⟩; simp only [hd]; exact ⟨es, hm, ifC_mk (.inr ⟨ha, by trivial⟩)⟩
  · rename_i hd
    rcases ifC_out h1 with ⟨ha, h3⟩ | ⟨ha, h3⟩
    · refine ⟨_, h3, tyF_mk hi ?_⟩; simp only [hd]; exact ifC_mk (.inl ⟨ha, by trivial⟩)
    · refine ⟨_, h3, tyF_mk hi ?_⟩; simp only [hd]; exact ifC_mk (.inr ⟨ha, by trivial⟩)
  · exact h1.elim
theorem lenF_ext {t : Nat} {x : Value} (h : lenF T t x H K') : ∃ v, K' v ∧ lenF T t x H (· = v) := by
  unfold lenF at h
  obtain ⟨i, hi, h1⟩ := tyF_get h
  split at h1
  · rename_i hd; refine ⟨_, h1, tyF_mk hi ?_⟩; simp only [hd]
  · rename_i hd; refine ⟨_, h1, tyF_mk hi ?_⟩; simp only [hd]
  · rename_i hd; refine ⟨_, h1, tyF_mk hi ?_⟩; simp only [hd]
  · rename_i hd; obtain ⟨es, hm, h2⟩ := h1; refine ⟨_, h2, tyF_mk hi ?_⟩; simp only [hd]; exact ⟨es, hm, rfl⟩
  · exact h1.elim
theorem typeAssertF_ext {x : Value} {a : Nat} {ok : Bool} (h : typeAssertF T x a ok K') : ∃ v, K' v ∧ typeAssertF T x a ok (· = v) := by
  unfold typeAssertF at h
  obtain ⟨i, hi, h1⟩ := tyF_get h
  split at h1
  · rename_i hd
    split at h1
    · refine ⟨_, h1, tyF_mk hi ?_⟩; simp only [hd]
    · rcases ifC_out h1 with ⟨ha, h3⟩ | ⟨ha, h3⟩
      · refine ⟨_, h3, tyF_mk hi ?_⟩; simp only [hd]; exact ifC_mk (.inl ⟨ha, by trivial⟩)
      · refine ⟨_, h3, tyF_mk hi ?_⟩; simp only [hd]; exact ifC_mk (.inr ⟨ha, by trivial⟩)
    · exact h1.elim
  · exact h1.elim
theorem fillF_ext {place : Nat → (Nat → Nat → Prop) → Prop} (hp : ∀ i (K : Nat → Nat → Prop), place i K → ∃ a b, K a b ∧ ∀ K2 : Nat → Nat → Prop, K2 a b → place i K2) :
    ∀ (ps : List (Nat × Value)) (cells : List Value) (K : List Value → Prop), fillF place cells ps K → ∃ cs, K cs ∧ ∀ K2 : List Value → Prop, K2 cs → fillF place cells ps K2
  | [], cells, K, h => ⟨cells, h, fun _ h2 => h2⟩
  | (i, v) :: r, cells, K, h => by
    unfold fillF at h
    obtain ⟨off, size, h1, hp2⟩ := hp _ _ h
    rw [cellsF_iff] at h1
    rcases ifC_out h1 with ⟨e1, h2⟩ | ⟨_, h2⟩
    · rcases ifC_out h2 with ⟨e2, h3⟩ | ⟨_, h3⟩
      · rw [setNF_iff] at h3
        obtain ⟨cs, hk, hall⟩ := fillF_ext hp r _ _ h3
        refine ⟨cs, hk, fun K2 h4 => ?_⟩
        unfold fillF
        refine hp2 _ ?_
        rw [cellsF_iff]
        refine ifC_mk (.inl ⟨e1, ifC_mk (.inl ⟨e2, ?_⟩)⟩)
        rw [setNF_iff]
        exact hall K2 h4
      · exact h3.elim
    · exact h2.elim
theorem structPlace_ext (fs : List (Nat × Nat × Bool)) (i : Nat) (K : Nat → Nat → Prop) (h : structPlace fs i K) : ∃ a b, K a b ∧ ∀ K2 : Nat → Nat → Prop, K2 a b → structPlace fs i K2 := by
  obtain ⟨p, hp, h⟩ := nthG_get h
  exact ⟨_, _, h, fun K2 h2 => nthG_mk hp h2⟩
theorem rowPlace_ext (esz : Nat) (i : Nat) (K : Nat → Nat → Prop) (h : rowPlace esz i K) : ∃ a b, K a b ∧ ∀ K2 : Nat → Nat → Prop, K2 a b → rowPlace esz i K2 := ⟨_, _, h, fun _ h2 => h2⟩
theorem buildF_ext {t : Nat} {ps : List (Nat × Value)} (h : buildF T t ps K') : ∃ v, K' v ∧ buildF T t ps (· = v) := by
  unfold buildF at h
  obtain ⟨i, hi, h1⟩ := tyF_get h
  split at h1
  · rename_i hd
    obtain ⟨cs, hk, hall⟩ := fillF_ext (structPlace_ext _) _ _ _ h1
    refine ⟨_, hk, tyF_mk hi ?_⟩; simp only [hd]; exact hall _ rfl
  · rename_i hd
    obtain ⟨cs, hk, hall⟩ := fillF_ext (rowPlace_ext _) _ _ _ h1
    refine ⟨_, hk, tyF_mk hi ?_⟩; simp only [hd]; exact hall _ rfl
  · exact h1.elim

/-! ### Kinds of operations -/
inductive Cls where
  | quiet | alloc | call | other
  deriving DecidableEq
def clsOf : Op → Cls
  | .move _ | .assign _ | .pick .. | .load .. | .nilCheck _ | .binOp .. | .unOp .. | .convert .. | .makeInterface .. | .makeFunc .. | .slice .. | .fieldAddr .. | .field .. | .indexAddr .. | .index .. | .lookup .. | .extract .. | .build .. | .typeAssert .. => .quiet
  | .alloc _ | .box .. | .buildSlice .. | .makeSlice .. | .makeMap .. => .alloc
  | .call ⟨.builtin .len, _, _⟩ | .call ⟨.builtin .min, _, _⟩ | .call ⟨.builtin .max, _, _⟩ => .quiet
  | .call ⟨.value _, _, _⟩ | .store .. | .mapUpdate .. | .call ⟨.builtin .append, _, _⟩ | .call ⟨.builtin .copy, _, _⟩ | .call ⟨.builtin .clear, _, _⟩ => .call
  | _ => .other

theorem opF_ext {op : Op} {fr : List Value} {K : Value → Hp → Prop} {E : List PanicEntry → Hp → Prop} (hc : clsOf op = .quiet) (h : opF P T op fr H K E) :
    ∃ v, K v H ∧ opF P T op fr H (fun u _ => u = v) (fun _ _ => False) := by
  cases op with
  | move x => simp only [opF, evF_iff] at h ⊢; exact ⟨_, h, by trivial⟩
  | assign x => simp only [opF, evF_iff] at h ⊢; exact ⟨_, h, by trivial⟩
  | pick c x y =>
    simp only [opF, evF_iff, pickF] at h ⊢
    split at h
    · rename_i b hb
      rcases ifC_out h with ⟨e, h⟩ | ⟨e, h⟩
      · exact ⟨_, h, ifC_mk (.inl ⟨e, by trivial⟩)⟩
      · exact ⟨_, h, ifC_mk (.inr ⟨e, by trivial⟩)⟩
    · exact h.elim
  | build t ps => simp only [opF, evpF_iff] at h ⊢; exact buildF_ext h
  | load t x => simp only [opF, evF_iff] at h ⊢; exact loadF_ext h
  | nilCheck x => simp only [opF, evF_iff] at h ⊢; exact nilCheckF_ext h
  | binOp op t x y ty => simp only [opF, evF_iff] at h ⊢; exact binF_ext h
  | unOp op t x => simp only [opF, evF_iff] at h ⊢; exact unF_ext h
  | convert s d x => simp only [opF, evF_iff] at h ⊢; exact convF_ext h
  | makeInterface t x =>
    simp only [opF, evF_iff] at h ⊢
    obtain ⟨i, hi, h⟩ := tyF_get h
    rcases ifC_out h with ⟨e, h⟩ | ⟨e, h⟩
    · exact h.elim
    · exact ⟨_, h, tyF_mk hi (ifC_mk (.inr ⟨e, by trivial⟩))⟩
  | makeFunc fn a b => simp only [opF, evsF_iff] at h ⊢; exact ⟨_, h, by trivial⟩
  | slice t x lo hi mx => simp only [opF, evF_iff, evOptF_iff] at h ⊢; exact sliceF_ext h
  | fieldAddr t x f => simp only [opF, evF_iff] at h ⊢; exact fieldAddrF_ext h
  | field t x f => simp only [opF, evF_iff] at h ⊢; exact fieldF_ext h
  | indexAddr t x i => simp only [opF, evF_iff] at h ⊢; exact indexAddrF_ext h
  | index t x i => simp only [opF, evF_iff] at h ⊢; exact indexF_ext h
  | lookup t m k ok => simp only [opF, evF_iff] at h ⊢; exact lookupF_ext h
  | typeAssert x xt a ok => simp only [opF, evF_iff] at h ⊢; exact typeAssertF_ext h
  | extract x i =>
    simp only [opF, evF_iff] at h ⊢
    split at h
    · obtain ⟨v, hv, h⟩ := nthG_get h
      exact ⟨v, h, nthG_mk hv (by trivial)⟩
    · exact h.elim
  | call c =>
    obtain ⟨callee, args, ts⟩ := c
    cases callee with
    | invoke r m => cases hc
    | value f => cases hc
    | builtin b =>
      simp only [opF, evsF_iff] at h ⊢
      unfold builtinF at h
      split at h
      · rename_i e1 e2; simp only [e1, e2, builtinF]; exact lenF_ext h
      · cases hc
      · cases hc
      · cases hc
      · rename_i e2; simp only [e2, builtinF]
        unfold minF at h ⊢
        split at h
        · exact ⟨_, h, by trivial⟩
        · exact h.elim
      · rename_i e2; simp only [e2, builtinF]
        unfold maxF at h ⊢
        split at h
        · exact ⟨_, h, by trivial⟩
        · exact h.elim
      · exact h.elim
  | alloc _ | box _ _ | buildSlice _ _ _ | makeSlice _ _ _ | makeMap _ _ | store _ _ _ | mapUpdate _ _ _ _ | panic _ => cases hc
  | ready _ | waits _ | insert _ _ _ _ | sliceToArrayPointer _ _ | makeChan _ _ | mapEntry _ _ _ | entryStore _ _ _ _ | range _ _ | next _ _ | entry _ | go _ | defer _ | send _ _ | recv _ _ _ | select _ _ => exact h.elim

end
end Go.Proofs.Ytohdcmkooedkcaa.A
