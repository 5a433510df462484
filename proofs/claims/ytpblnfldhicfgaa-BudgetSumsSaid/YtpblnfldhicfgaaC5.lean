/- When Ask is possible, and what it does. -/
import Derived.Test.YtpblnfldhicfgaaC4
namespace Go.Proofs.Ytpblnfldhicfgaa.A
open Go Go.RowKit
set_option linter.unusedVariables false
set_option linter.unusedSimpArgs false

theorem knE_nodup {B : Bk} : ∀ {l b : List Int}, knE B b l = 0 → l.Nodup ∧ ∀ x ∈ l, x ∉ b
  | [], b, h => ⟨List.nodup_nil, by simp⟩
  | p :: r, b, h => by
    rw [knE_cons] at h
    split at h
    · omega
    · split at h
      · omega
      · rename_i hb
        split at h
        · omega
        · obtain ⟨h1, h2⟩ := knE_nodup h
          refine ⟨List.nodup_cons.2 ⟨fun hp => h2 p hp (by simp), h1⟩, fun x hx => ?_⟩
          rcases List.mem_cons.1 hx with rfl | hx
          · exact hb
          · exact fun hxb => h2 x hx (List.mem_append_left _ hxb)
theorem getf_set_ne {l : List Fr} {i k : Nat} (h : i ≠ k) (a : Fr) : getf (l.set i a) k = getf l k := by
  simp [getf, List.getD_eq_getElem?_getD, List.getElem?_set_ne h]
theorem getf_set_eq {l : List Fr} {k : Nat} (h : k < l.length) (a : Fr) : getf (l.set k a) k = a := by
  simp [getf, List.getD_eq_getElem?_getD, List.getElem?_set_self h]
theorem getf_set_neI {l : List Fr} {p k : Int} (hp : 0 ≤ p) (hk : 0 ≤ k) (h : p ≠ k) (a : Fr) : getf (l.set p.toNat a) k = getf l k := by
  simp only [getf, List.getD_eq_getElem?_getD]
  rw [List.getElem?_set_ne (by omega)]
theorem getf_set_eqI {l : List Fr} {k : Int} (h0 : 0 ≤ k) (h : k < l.length) (a : Fr) : getf (l.set k.toNat a) k = a := by
  simp only [getf, List.getD_eq_getElem?_getD]
  rw [List.getElem?_set_self (by omega)]; rfl
theorem addAll_full (lim : List Fr) (c : Fr) : ∀ (l : List Int) (sp : List Fr) (ov : Bool), l.Nodup → (∀ p ∈ l, 0 ≤ p ∧ p < sp.length) → (∀ p ∈ l, (addF (getf sp p) c).2 = 0) →
    ∃ sp', addAll lim c l sp ov = .ok (sp', ov || l.any fun p => decide (0 < cmpF (addF (getf sp p) c).1 (getf lim p))) ∧ ∀ k : Int, 0 ≤ k → getf sp' k = if k ∈ l then (addF (getf sp k) c).1 else getf sp k
  | [], sp, ov, _, _, _ => ⟨sp, by simp [addAll_nil], by simp⟩
  | p :: r, sp, ov, hn, hr, he => by
    obtain ⟨hp, hn⟩ := List.nodup_cons.1 hn
    have h0 := hr p List.mem_cons_self
    have hne : ∀ k ∈ r, getf (sp.set p.toNat (addF (getf sp p) c).1) k = getf sp k := fun k hk => by
      have := hr k (List.mem_cons_of_mem _ hk)
      exact getf_set_neI h0.1 this.1 (fun e => hp (e ▸ hk)) _
    obtain ⟨sp', h1, h2⟩ := addAll_full lim c r (sp.set p.toNat (addF (getf sp p) c).1) (ov || decide (0 < cmpF (addF (getf sp p) c).1 (getf lim p))) hn
      (fun k hk => by rw [List.length_set]; exact hr k (List.mem_cons_of_mem _ hk)) (fun k hk => by rw [hne k hk]; exact he k (List.mem_cons_of_mem _ hk))
    refine ⟨sp', ?_, fun k hk => ?_⟩
    · rw [addAll_cons, if_neg (by have := he p List.mem_cons_self; omega), h1, List.any_cons, Bool.or_assoc]
      congr 3
      congr 1
      refine Bool.eq_iff_iff.2 ?_
      rw [List.any_eq_true, List.any_eq_true]
      exact ⟨fun ⟨x, hx, h⟩ => ⟨x, hx, by rw [← hne x hx]; exact h⟩, fun ⟨x, hx, h⟩ => ⟨x, hx, by rw [hne x hx]; exact h⟩⟩
    · rw [h2 k hk]
      by_cases hkr : k ∈ r
      · rw [if_pos hkr, if_pos (List.mem_cons_of_mem _ hkr), hne k hkr]
      · rw [if_neg hkr]
        by_cases hkp : k = p
        · subst hkp
          rw [if_pos List.mem_cons_self, getf_set_eqI h0.1 h0.2]
        · rw [if_neg (by simp [hkp, hkr]), getf_set_neI h0.1 hk (fun e => hkp e.symm)]
theorem addAll_err (lim : List Fr) (c : Fr) : ∀ (l : List Int) (sp : List Fr) (ov : Bool), l.Nodup → (∀ p ∈ l, 0 ≤ p ∧ p < sp.length) → (∃ p ∈ l, (addF (getf sp p) c).2 ≠ 0) → ∃ f, f ≠ 0 ∧ addAll lim c l sp ov = .error f
  | [], sp, ov, _, _, h => by simp at h
  | p :: r, sp, ov, hn, hr, h => by
    obtain ⟨hp, hn⟩ := List.nodup_cons.1 hn
    have h0 := hr p List.mem_cons_self
    rw [addAll_cons]
    split
    · rename_i he; exact ⟨_, he, rfl⟩
    · rename_i he
      refine addAll_err lim c r _ _ hn (fun k hk => by rw [List.length_set]; exact hr k (List.mem_cons_of_mem _ hk)) ?_
      obtain ⟨k, hk, h⟩ := h
      rcases List.mem_cons.1 hk with rfl | hk
      · exact absurd h he
      · refine ⟨k, hk, ?_⟩
        rw [getf_set_neI h0.1 (hr k (List.mem_cons_of_mem _ hk)).1 (fun e => hp (e ▸ hk))]
        exact h
def ptF (B : Bk) (l : List Int) (c : Fr) (o : Nat) : Fr × Int := mulF c (mkF (cnt B.own l o) l.length).1
theorem oweAll_full (B : Bk) (l : List Int) (c : Fr) : ∀ (os : List Nat) (owed : List Fr) (ov : Bool), os.Nodup → (∀ o ∈ os, o < owed.length) → (∀ o ∈ os, cnt B.own l o ≠ 0 → (ptF B l c o).2 = 0 ∧ (addF (getf owed o) (ptF B l c o).1).2 = 0) →
    ∃ owed', oweAll B l c os owed ov = .ok (owed', ov || os.any fun o => decide (cnt B.own l o ≠ 0 ∧ 0 < cmpF (addF (getf owed o) (ptF B l c o).1).1 (getf B.most o))) ∧
      ∀ k : Nat, getf owed' k = if k ∈ os ∧ cnt B.own l k ≠ 0 then (addF (getf owed k) (ptF B l c k).1).1 else getf owed k
  | [], owed, ov, _, _, _ => ⟨owed, by simp [oweAll_nil], by simp⟩
  | o :: r, owed, ov, hn, hr, he => by
    obtain ⟨hp, hn⟩ := List.nodup_cons.1 hn
    have h0 := hr o List.mem_cons_self
    rw [oweAll_cons]
    by_cases hc : cnt B.own l o = 0
    · obtain ⟨owed', h1, h2⟩ := oweAll_full B l c r owed ov hn (fun k hk => hr k (List.mem_cons_of_mem _ hk)) (fun k hk => he k (List.mem_cons_of_mem _ hk))
      refine ⟨owed', ?_, fun k => ?_⟩
      · rw [if_pos hc, h1, List.any_cons]; simp [hc]
      · rw [h2 k]
        by_cases hk : k = o
        · subst hk; simp [hc]
        · simp [hk]
    · obtain ⟨he1, he2⟩ := he o List.mem_cons_self hc
      have hne : ∀ k : Nat, k ≠ o → getf (owed.set o (addF (getf owed o) (ptF B l c o).1).1) k = getf owed k := fun k hk => getf_set_ne (fun e => hk e.symm) _
      have hnr : ∀ k ∈ r, k ≠ o := fun k hk e => hp (e ▸ hk)
      obtain ⟨owed', h1, h2⟩ := oweAll_full B l c r (owed.set o (addF (getf owed o) (ptF B l c o).1).1) (ov || decide (0 < cmpF (addF (getf owed o) (ptF B l c o).1).1 (getf B.most o))) hn
        (fun k hk => by rw [List.length_set]; exact hr k (List.mem_cons_of_mem _ hk)) (fun k hk => by rw [hne k (hnr k hk)]; exact he k (List.mem_cons_of_mem _ hk))
      refine ⟨owed', ?_, fun k => ?_⟩
      · rw [if_neg hc]
        show (if (ptF B l c o).2 ≠ 0 then _ else if (addF (getf owed o) (ptF B l c o).1).2 ≠ 0 then _ else _) = _
        rw [if_neg (by omega), if_neg (by omega)]
        show oweAll B l c r (owed.set o (addF (getf owed o) (ptF B l c o).1).1) (ov || decide (0 < cmpF (addF (getf owed o) (ptF B l c o).1).1 (getf B.most o))) = _
        rw [h1, List.any_cons, Bool.or_assoc]
        congr 3
        congr 1
        · simp [hc]
        · refine Bool.eq_iff_iff.2 ?_
          rw [List.any_eq_true, List.any_eq_true]
          exact ⟨fun ⟨x, hx, h⟩ => ⟨x, hx, by rw [← hne x (hnr x hx)]; exact h⟩, fun ⟨x, hx, h⟩ => ⟨x, hx, by rw [hne x (hnr x hx)]; exact h⟩⟩
      · rw [h2 k]
        by_cases hk : k = o
        · subst hk
          rw [if_neg (fun h => hp h.1), if_pos ⟨List.mem_cons_self, hc⟩, getf_set_eq h0]
        · rw [hne k hk]; simp [hk]
theorem oweAll_err (B : Bk) (l : List Int) (c : Fr) : ∀ (os : List Nat) (owed : List Fr) (ov : Bool), os.Nodup → (∀ o ∈ os, o < owed.length) → (∃ o ∈ os, cnt B.own l o ≠ 0 ∧ ((ptF B l c o).2 ≠ 0 ∨ (addF (getf owed o) (ptF B l c o).1).2 ≠ 0)) →
    ∃ f, f ≠ 0 ∧ oweAll B l c os owed ov = .error f
  | [], owed, ov, _, _, h => by simp at h
  | o :: r, owed, ov, hn, hr, h => by
    obtain ⟨hp, hn⟩ := List.nodup_cons.1 hn
    obtain ⟨k, hk, hc', h⟩ := h
    rw [oweAll_cons]
    by_cases hc : cnt B.own l o = 0
    · rw [if_pos hc]
      refine oweAll_err B l c r owed ov hn (fun k hk => hr k (List.mem_cons_of_mem _ hk)) ⟨k, ?_, hc', h⟩
      rcases List.mem_cons.1 hk with rfl | hk
      · exact absurd hc hc'
      · exact hk
    · rw [if_neg hc]
      show ∃ f, f ≠ 0 ∧ (if (ptF B l c o).2 ≠ 0 then Except.error (ptF B l c o).2 else if (addF (getf owed o) (ptF B l c o).1).2 ≠ 0 then _ else _) = _
      by_cases e1 : (ptF B l c o).2 ≠ 0
      · rw [if_pos e1]; exact ⟨_, e1, rfl⟩
      · rw [if_neg e1]
        by_cases e2 : (addF (getf owed o) (ptF B l c o).1).2 ≠ 0
        · rw [if_pos e2]; exact ⟨_, e2, rfl⟩
        · rw [if_neg e2]
          refine oweAll_err B l c r _ _ hn (fun k hk => by rw [List.length_set]; exact hr k (List.mem_cons_of_mem _ hk)) ⟨k, ?_, hc', ?_⟩
          · rcases List.mem_cons.1 hk with rfl | hk
            · rcases h with h | h
              · exact absurd h e1
              · exact absurd h e2
            · exact hk
          · rcases List.mem_cons.1 hk with rfl | hk
            · rcases h with h | h
              · exact absurd h e1
              · exact absurd h e2
            · show (ptF B l c k).2 ≠ 0 ∨ (addF (getf (owed.set o (addF (getf owed o) (ptF B l c o).1).1) k) (ptF B l c k).1).2 ≠ 0
              rw [getf_set_ne (fun e => by subst e; exact hp hk)]; exact h

structure AskOk (B : Bk) (l : List Int) (c : Fr) : Prop where
  l0 : l.length ≠ 0
  ok : okC c
  kn : knE B [] l = 0
  add : ∀ p ∈ l, (addF (getf B.sp p) c).2 = 0 ∧ ¬ 0 < cmpF (addF (getf B.sp p) c).1 (getf B.lim p)
  owe : ∀ o : Nat, o < B.most.length → cnt B.own l o ≠ 0 → (ptF B l c o).2 = 0 ∧ (addF (getf B.owed o) (ptF B l c o).1).2 = 0 ∧ ¬ 0 < cmpF (addF (getf B.owed o) (ptF B l c o).1).1 (getf B.most o)
/-- What is as it was, and what has grown. -/
structure Asked (B : Bk) (l : List Int) (c : Fr) (B' : Bk) : Prop where
  lim : B'.lim = B.lim
  own : B'.own = B.own
  rem : B'.rem = B.rem
  most : B'.most = B.most
  sp : ∀ k : Int, 0 ≤ k → getf B'.sp k = if k ∈ l then (addF (getf B.sp k) c).1 else getf B.sp k
  owed : ∀ k : Nat, k < B.most.length → getf B'.owed k = if cnt B.own l k ≠ 0 then (addF (getf B.owed k) (ptF B l c k).1).1 else getf B.owed k
theorem ask_ok {B : Bk} {l : List Int} {c : Fr} (hB : okB B) (h : AskOk B l c) : ∃ B', askB B l c = (B', 0) ∧ Asked B l c B' := by
  have hn := (knE_nodup h.kn).1
  have hin := knE_in h.kn
  obtain ⟨sp', h1, h2⟩ := addAll_full B.lim c l B.sp false hn (fun p hp => by rw [hB.l1]; exact hin p hp) (fun p hp => (h.add p hp).1)
  obtain ⟨owed', h3, h4⟩ := oweAll_full B l c (List.range B.most.length) B.owed (false || l.any fun p => decide (0 < cmpF (addF (getf B.sp p) c).1 (getf B.lim p))) List.nodup_range (fun o ho => by rw [hB.l4]; exact List.mem_range.1 ho)
    (fun o ho hc => ⟨(h.owe o (List.mem_range.1 ho) hc).1, (h.owe o (List.mem_range.1 ho) hc).2.1⟩)
  have hov1 : (l.any fun p => decide (0 < cmpF (addF (getf B.sp p) c).1 (getf B.lim p))) = false := by
    rw [List.any_eq_false]
    intro p hp
    have := (h.add p hp).2
    simp [this]
  have hov2 : ((List.range B.most.length).any fun o => decide (cnt B.own l o ≠ 0 ∧ 0 < cmpF (addF (getf B.owed o) (ptF B l c o).1).1 (getf B.most o))) = false := by
    rw [List.any_eq_false]
    intro o ho
    have := h.owe o (List.mem_range.1 ho)
    simp only [decide_eq_true_eq]
    rintro ⟨ha, hb⟩
    exact (this ha).2.2 hb
  rw [hov1] at h1 h3
  rw [hov2] at h3
  refine ⟨{ B with sp := sp', owed := owed' }, ?_, rfl, rfl, rfl, rfl, h2, fun k hk => ?_⟩
  · unfold askB
    rw [if_neg (fun h' => h'.elim h.l0 fun h' => h' h.ok), if_neg (by rw [h.kn]; exact fun h => h rfl), h1]
    simp only [Bool.or_false] at *
    rw [h3]
    rfl
  · rw [h4 k]
    simp [hk]
theorem ask_no {B : Bk} {l : List Int} {c : Fr} (hB : okB B) (h : ¬ AskOk B l c) : (askB B l c).1 = B ∧ (askB B l c).2 ≠ 0 := by
  unfold askB
  by_cases c1 : l.length = 0 ∨ ¬ okC c
  · rw [if_pos c1]; exact ⟨rfl, by simp⟩
  · rw [if_neg c1]
    by_cases c2 : knE B [] l ≠ 0
    · rw [if_pos c2]; exact ⟨rfl, c2⟩
    · rw [if_neg c2]
      have kn : knE B [] l = 0 := Classical.not_not.1 c2
      have hn := (knE_nodup kn).1
      have hin := knE_in kn
      have hr : ∀ p ∈ l, 0 ≤ p ∧ p < B.sp.length := fun p hp => by rw [hB.l1]; exact hin p hp
      have hr2 : ∀ o ∈ List.range B.most.length, o < B.owed.length := fun o ho => by rw [hB.l4]; exact List.mem_range.1 ho
      by_cases c3 : ∃ p ∈ l, (addF (getf B.sp p) c).2 ≠ 0
      · obtain ⟨f, h1, h2⟩ := addAll_err B.lim c l B.sp false hn hr c3
        rw [h2]; exact ⟨rfl, h1⟩
      · have c3' : ∀ p ∈ l, (addF (getf B.sp p) c).2 = 0 := fun p hp => Classical.not_not.1 fun h => c3 ⟨p, hp, h⟩
        obtain ⟨sp', h1, h2⟩ := addAll_full B.lim c l B.sp false hn hr c3'
        rw [h1]
        simp only
        by_cases c4 : ∃ o ∈ List.range B.most.length, cnt B.own l o ≠ 0 ∧ ((ptF B l c o).2 ≠ 0 ∨ (addF (getf B.owed o) (ptF B l c o).1).2 ≠ 0)
        · obtain ⟨f, h3, h4⟩ := oweAll_err B l c (List.range B.most.length) B.owed (false || l.any fun p => decide (0 < cmpF (addF (getf B.sp p) c).1 (getf B.lim p))) List.nodup_range hr2 c4
          rw [h4]; exact ⟨rfl, h3⟩
        · have c4' : ∀ o ∈ List.range B.most.length, cnt B.own l o ≠ 0 → (ptF B l c o).2 = 0 ∧ (addF (getf B.owed o) (ptF B l c o).1).2 = 0 := fun o ho hc =>
            ⟨Classical.not_not.1 fun h => c4 ⟨o, ho, hc, .inl h⟩, Classical.not_not.1 fun h => c4 ⟨o, ho, hc, .inr h⟩⟩
          obtain ⟨owed', h3, h4⟩ := oweAll_full B l c (List.range B.most.length) B.owed (false || l.any fun p => decide (0 < cmpF (addF (getf B.sp p) c).1 (getf B.lim p))) List.nodup_range hr2 c4'
          rw [h3]
          simp only
          rw [if_pos]
          · exact ⟨rfl, by simp⟩
          · refine Classical.not_not.1 fun hov => h ⟨fun e => c1 (.inl e), Classical.not_not.1 fun e => c1 (.inr e), kn, fun p hp => ⟨c3' p hp, fun hlt => hov ?_⟩, fun o ho hc => ⟨(c4' o (List.mem_range.2 ho) hc).1, (c4' o (List.mem_range.2 ho) hc).2, fun hlt => hov ?_⟩⟩
            · rw [Bool.false_or, Bool.or_eq_true]
              exact .inl (List.any_eq_true.2 ⟨p, hp, by simpa using hlt⟩)
            · rw [Bool.or_eq_true]
              exact .inr (List.any_eq_true.2 ⟨o, List.mem_range.2 ho, by simpa using ⟨hc, hlt⟩⟩)
theorem ask_iff {B : Bk} {l : List Int} {c : Fr} (hB : okB B) : (askB B l c).2 = 0 ↔ AskOk B l c := by
  constructor
  · intro h
    exact Classical.not_not.1 fun h' => (ask_no hB h').2 h
  · intro h
    obtain ⟨B', h1, _⟩ := ask_ok hB h
    rw [h1]
theorem ask_did {B : Bk} {l : List Int} {c : Fr} (hB : okB B) (h : (askB B l c).2 = 0) : Asked B l c (askB B l c).1 := by
  obtain ⟨B', h1, h2⟩ := ask_ok hB ((ask_iff hB).1 h)
  rw [h1]; exact h2
end Go.Proofs.Ytpblnfldhicfgaa.A
