/- What Ask computes; the model's has, known, Remove. -/
import Derived.Test.YtpblnfldhicfgaaB12
namespace Go.Proofs.Ytpblnfldhicfgaa.A
open Go Go.RowKit
set_option linter.unusedVariables false
set_option linter.unusedSimpArgs false
set_option maxRecDepth 4000

def knE (B : Bk) : List Int → List Int → Int
  | _, [] => 0
  | before, p :: r => if p < 0 ∨ p ≥ B.lim.length then 6 else if p ∈ before then 7 else if getb B.rem p = true then 24 else knE B (before ++ [p]) r
def addAll (lim : List Fr) (cost : Fr) : List Int → List Fr → Bool → Except Int (List Fr × Bool)
  | [], sp, ov => .ok (sp, ov)
  | p :: r, sp, ov => if (addF (getf sp p) cost).2 ≠ 0 then .error (addF (getf sp p) cost).2 else
    addAll lim cost r (sp.set p.toNat (addF (getf sp p) cost).1) (ov || decide (0 < cmpF (addF (getf sp p) cost).1 (getf lim p)))
def cnt (own : List Int) (l : List Int) (o : Int) : Nat := (l.filter fun p => decide (geti own p = o)).length
def oweAll (B : Bk) (l : List Int) (cost : Fr) : List Nat → List Fr → Bool → Except Int (List Fr × Bool)
  | [], owed, ov => .ok (owed, ov)
  | o :: r, owed, ov => if cnt B.own l o = 0 then oweAll B l cost r owed ov else
    let m := mulF cost (mkF (cnt B.own l o) l.length).1
    if m.2 ≠ 0 then .error m.2 else
    let s := addF (getf owed o) m.1
    if s.2 ≠ 0 then .error s.2 else oweAll B l cost r (owed.set o s.1) (ov || decide (0 < cmpF s.1 (getf B.most o)))
def askB (B : Bk) (l : List Int) (cost : Fr) : Bk × Int :=
  if l.length = 0 ∨ ¬ okC cost then (B, 1) else
  if knE B [] l ≠ 0 then (B, knE B [] l) else
  match addAll B.lim cost l B.sp false with
  | .error f => (B, f)
  | .ok (sp, ov) => match oweAll B l cost (List.range B.most.length) B.owed ov with
    | .error f => (B, f)
    | .ok (owed, ov) => if ov = true then (B, 22) else ({ B with sp := sp, owed := owed }, 0)

theorem knE_nil (B : Bk) (b : List Int) : knE B b [] = 0 := rfl
theorem knE_cons (B : Bk) (b : List Int) (p : Int) (r : List Int) : knE B b (p :: r) = if p < 0 ∨ p ≥ B.lim.length then 6 else if p ∈ b then 7 else if getb B.rem p = true then 24 else knE B (b ++ [p]) r := rfl
theorem mkF_ok (p q : Int) : okF (mkF p q).1 := by
  unfold mkF
  split
  · exact .inl ⟨rfl, rfl⟩
  · split
    · exact .inl ⟨rfl, rfl⟩
    · rename_i h h1
      have hg : 0 < Nat.gcd p.natAbs q.natAbs := Nat.gcd_pos_of_pos_right _ (by omega)
      have hc := Nat.gcd_div_gcd_div_gcd_of_pos_right (n := p.natAbs) (m := q.natAbs) (by omega)
      have hd : 0 < q.natAbs / Nat.gcd p.natAbs q.natAbs := Nat.div_pos (Nat.le_of_dvd (by omega) (Nat.gcd_dvd_right _ _)) hg
      generalize Nat.gcd p.natAbs q.natAbs = d at *
      generalize p.natAbs / d = a at *
      generalize q.natAbs / d = b at *
      refine .inr ⟨by simp only; omega, by simp only; omega, ?_, ?_, ?_⟩
      · simp only; split <;> omega
      · simp only; split <;> omega
      · simp only
        split
        · simpa using hc
        · simpa using hc
theorem addF_okF (a b : Fr) : okF (addF a b).1 := by
  unfold addF; split
  · exact mkF_ok _ _
  · exact .inl ⟨rfl, rfl⟩
theorem mulF_okF (a b : Fr) : okF (mulF a b).1 := by
  unfold mulF; split
  · exact mkF_ok _ _
  · exact .inl ⟨rfl, rfl⟩

/-! ### Parts of slices -/
theorem IntsAt.take {H : Hp} {p : Option Addr} {n c : Nat} {l : List Int} (h : IntsAt H (.slice p n c) l) (k : Nat) (hk : k ≤ l.length) : IntsAt H (.slice (subAddr p c 0 1) (k - 0) (c - 0)) (l.take k) := by
  obtain ⟨p', n', c', e, h1, h2, h3⟩ := h.reads
  cases e
  rw [ints_length, Nat.mul_one] at h2
  have hlen := h.len
  refine ⟨⟨_, _, _, rfl, by omega, by simp [ints_length, List.length_take]; omega, fun h0 => ?_⟩, fun x hx => h.fit x (List.mem_of_mem_take hx), by simp; omega⟩
  obtain ⟨g, o, rfl, hcells⟩ := h3 (by omega)
  have : subAddr (some ⟨g, o, none⟩) c 0 1 = some ⟨g, o, none⟩ := by
    unfold subAddr
    split
    · rfl
    · simp [Addr.add]
  refine ⟨g, o, this, fun j u hj => hcells j u ?_⟩
  simp only [ints, List.getElem?_map, List.getElem?_take] at hj ⊢
  split at hj
  · exact hj
  · simp at hj

theorem c_has (v : Value) (l : List Int) (x : Int) (H : Hp) (hv : IntsAt H v l) (R : Ending → Hp → Prop) (hR : R (.returned (.bool (decide (x ∈ l)))) H) : ACalls Try.prog 68 [v, .int .i64 x] H R := by
  obtain ⟨p, c, rfl, hlc, hc⟩ := hv.open
  have hb := hv.len
  refine acalls_code hT Try.func68 rfl rfl ?_
  conv => whnf
  refine awp_loopL hT 18 [0, 1, 5] (fun n vs H' => ∃ k : Nat, vs = [.slice p l.length c, .int .i64 x, .int .i64 k] ∧ n + k = l.length ∧ (l.take k).any (fun y => decide (y = x)) = false ∧ H' = H) l.length rfl rfl (Weak.refl _) ⟨0, rfl, rfl, rfl, rfl⟩ ?_
  rintro n u vs H' ⟨k, rfl, hk, ht, rfl⟩
  conv => whnf
  refine ifC_dec (fun h1 => ?_) (fun h1 => ?_)
  · conv => whnf
    obtain ⟨g, o, rfl, hcell⟩ := hc k (by omega) (by omega)
    refine ⟨g, o, rfl, by omega, ?_⟩
    conv => whnf
    refine ⟨_, hcell, ?_⟩
    conv => whnf
    have hkl : k < l.length := by omega
    refine ifC_dec (fun h2 => ?_) (fun h2 => ?_)
    · conv => whnf
      refine ⟨rfl, ?_⟩
      conv => whnf
      refine fin (Weak.refl _) (okV hR ⟨fun _ => ?_, fun _ => rfl⟩)
      rw [← h2]; exact geti_mem (by omega) (by omega)
    · conv => whnf
      repeat (refine ⟨_, wi (by omega), ?_⟩; conv => whnf)
      refine ⟨rfl, rfl, n - 1, _, by omega, Weak.refl _, k + 1, rfl, by omega, any_step hkl ht ?_, rfl⟩
      rw [← geti_at hkl]; exact decide_eq_false h2
  · conv => whnf
    refine ⟨rfl, ?_⟩
    conv => whnf
    refine fin (Weak.refl _) (okV hR (Iff.intro (fun h => absurd h (by decide)) (fun h => ?_)))
    have : k = l.length := by omega
    subst this
    rw [List.take_length] at ht
    have := List.any_eq_false.1 ht x h
    simp at this

structure RbAt (H : Hp) (g : Nat) (a b c d e f : Value) (B : Bk) : Prop where
  h : CellsAt H g 0 [a, b, c, d, e, f]
  a : Reads H a 2 (frs B.lim)
  b : Reads H b 2 (frs B.sp)
  c : Reads H c 1 (ints B.own)
  d : Reads H d 1 (bools B.rem)
  e : Reads H e 2 (frs B.most)
  f : Reads H f 2 (frs B.owed)
theorem rbAt {M : Nat → Option Obj} {L : List Atom} {g : Nat} {a b c d e f : Value} {B : Bk} (h : RbV a b c d e f B) : RbAt ⟨M, rbA g a b c d e f B ++ L⟩ g a b c d e f B where
  h j v hj := .inr ⟨_, List.mem_append_left _ List.mem_cons_self, rfl, by simpa using hj⟩
  a := readsRow (e := 24) (List.mem_append_left _ (by simp [rbA])) h.a
  b := readsRow (e := 24) (List.mem_append_left _ (by simp [rbA])) h.b
  c := readsRow (e := 3) (List.mem_append_left _ (by simp [rbA])) h.c
  d := readsRow (e := 4) (List.mem_append_left _ (by simp [rbA])) h.d
  e := readsRow (e := 24) (List.mem_append_left _ (by simp [rbA])) h.e
  f := readsRow (e := 24) (List.mem_append_left _ (by simp [rbA])) h.f
theorem RbAt.mono {H H' : Hp} {g : Nat} {a b c d e f : Value} {B : Bk} (h : RbAt H g a b c d e f B) (hl : HLe H H') : RbAt H' g a b c d e f B :=
  ⟨h.h.mono hl, h.a.mono hl, h.b.mono hl, h.c.mono hl, h.d.mono hl, h.e.mono hl, h.f.mono hl⟩
/-- A slice of fractions that are given by what is read. -/
theorem frsAt {H : Hp} {v : Value} {l : List Fr} (h : Reads H v 2 (frs l)) : ∃ p c, v = .slice p l.length c ∧
    ∀ i : Int, 0 ≤ i → i < l.length → ∃ g o, p = some ⟨g, o, none⟩ ∧ CellsAt H g (o + i.toNat * 2) (getf l i).cs := by
  obtain ⟨p, n, c, rfl, hnc, hl, hc⟩ := h
  rw [frs_length] at hl
  have hn : n = l.length := by omega
  subst hn
  refine ⟨p, c, rfl, fun i h0 h1 => ?_⟩
  obtain ⟨g, o, rfl, hcells⟩ := hc (by omega)
  refine ⟨g, o, rfl, ?_⟩
  obtain ⟨k, rfl⟩ : ∃ k : Nat, i = k := ⟨i.toNat, by omega⟩
  have hk : k < l.length := by omega
  have := frs_cells hk
  intro j v hj
  rw [Int.toNat_natCast, Nat.add_assoc]
  refine hcells (k * 2 + j) v ?_
  match j, hj with
  | 0, hj => simp [Fr.cs] at hj; rw [← hj]; exact this.1
  | 1, hj => simp [Fr.cs] at hj; rw [← hj]; exact this.2
  | j + 2, hj => simp [Fr.cs] at hj
theorem intsAt {H : Hp} {v : Value} {l : List Int} (h : Reads H v 1 (ints l)) : ∃ p c, v = .slice p l.length c ∧
    ∀ i : Int, 0 ≤ i → i < l.length → ∃ g o, p = some ⟨g, o, none⟩ ∧ H.cell g (o + i.toNat * 1) (.int .i64 (geti l i)) := by
  obtain ⟨p, n, c, rfl, hnc, hl, hc⟩ := h
  rw [ints_length, Nat.mul_one] at hl
  subst hl
  refine ⟨p, c, rfl, fun i h0 h1 => ?_⟩
  obtain ⟨g, o, rfl, hcells⟩ := hc (by omega)
  refine ⟨g, o, rfl, ?_⟩
  rw [Nat.mul_one]
  have hlt : i.toNat < l.length := by omega
  refine hcells i.toNat _ ?_
  simp [ints, geti, List.getD_eq_getElem?_getD, List.getElem?_eq_getElem hlt]

theorem c_known24 (g : Nat) (a b c d e f : Value) (B : Bk) (v : Value) (l : List Int) (H : Hp) (hB : okB B) (hb : RbAt H g a b c d e f B) (hv : IntsAt H v l) (R : Ending → Hp → Prop) (hR : R (.returned (.int .i64 (knE B [] l))) H) :
    ACalls Try.prog 58 [ptr g, v] H R := by
  obtain ⟨p, cp, rfl, hlc, hc⟩ := hv.open
  have hlen := hv.len
  obtain ⟨pb, cb, rfl, _⟩ := frsAt hb.b
  obtain ⟨pd, cd, rfl, hcd⟩ := boolsAt hb.d
  have l1 := hB.l1; have l3 := hB.l3
  refine acalls_code hT Try.func58 rfl rfl ?_
  conv => whnf
  refine awp_loopL hT 47 [0, 1, 5] (fun n vs H' => ∃ k : Nat, vs = [ptr g, .slice p l.length cp, .int .i64 k] ∧ n + k = l.length ∧ knE B [] l = knE B (l.take k) (l.drop k) ∧ H' = H) l.length rfl rfl (Weak.refl _) ⟨0, rfl, rfl, rfl, rfl⟩ ?_
  rintro n u vs H' ⟨k, rfl, hk, ht, rfl⟩
  conv => whnf
  refine ifC_dec (fun h1 => ?_) (fun h1 => ?_)
  · have hkl : k < l.length := by omega
    rw [List.drop_eq_getElem_cons hkl] at ht
    rw [knE_cons] at ht
    have e1 := geti_at hkl
    have e2 : l.take k ++ [l[k]] = l.take (k + 1) := (List.take_succ_eq_append_getElem hkl).symm
    rw [e2, ← e1] at ht
    conv => whnf
    obtain ⟨g', o, rfl, hcell⟩ := hc k (by omega) (by omega)
    refine awp_drawQ hT hM 17 (by kernel_rfl) ?_
    conv => whnf
    refine ⟨g', o, rfl, by omega, ?_⟩
    conv => whnf
    refine ⟨_, hcell, ?_⟩
    conv => whnf
    refine ifC_dec (fun h2 => ?_) (fun h2 => ?_)
    · conv => whnf
      refine ⟨rfl, ?_⟩
      conv => whnf
      rw [if_pos (by omega)] at ht
      exact fin (Weak.refl _) (ht ▸ hR)
    · conv => whnf
      refine ⟨g', o, rfl, by omega, ?_⟩
      conv => whnf
      refine ⟨_, hcell, ?_⟩
      conv => whnf
      refine ⟨_, hb.h 1 _ rfl, ?_⟩
      conv => whnf
      refine ifC_dec (fun h3 => ?_) (fun h3 => ?_)
      · conv => whnf
        refine ⟨rfl, ?_⟩
        conv => whnf
        rw [if_pos (by omega)] at ht
        exact fin (Weak.refl _) (ht ▸ hR)
      · rw [if_neg (by omega)] at ht
        conv => whnf
        refine awp_drawQ hT hM 8 (by kernel_rfl) ?_
        conv => whnf
        refine ⟨k, rfl, by omega, ?_⟩
        conv => whnf
        refine ⟨g', o, rfl, by omega, ?_⟩
        conv => whnf
        refine ⟨_, hcell, ?_⟩
        conv => whnf
        refine c_has _ (l.take k) _ _ (hv.take k (by omega)) _ ⟨Weak.refl _, ?_⟩
        conv => whnf
        refine ifC_dec (fun h4 => ?_) (fun h4 => ?_)
        · conv => whnf
          refine ⟨rfl, ?_⟩
          conv => whnf
          rw [if_pos h4] at ht
          exact fin (Weak.refl _) (ht ▸ hR)
        · rw [if_neg h4] at ht
          conv => whnf
          refine awp_drawQ hT hM 10 (by kernel_rfl) ?_
          conv => whnf
          refine ⟨_, hb.h 3 _ rfl, ?_⟩
          conv => whnf
          refine ⟨g', o, rfl, by omega, ?_⟩
          conv => whnf
          refine ⟨_, hcell, ?_⟩
          conv => whnf
          obtain ⟨gd, od, rfl, hcelld⟩ := hcd _ (by omega : 0 ≤ geti l k) (by omega)
          refine ⟨gd, od, rfl, by omega, ?_⟩
          conv => whnf
          refine ⟨_, hcelld, ?_⟩
          conv => whnf
          refine ifC_cases (fun h5 => ?_) (fun h5 => ?_)
          · conv => whnf
            refine ⟨rfl, ?_⟩
            conv => whnf
            rw [if_pos h5] at ht
            exact fin (Weak.refl _) (ht ▸ hR)
          · conv => whnf
            repeat (refine ⟨_, wi (by omega), ?_⟩; conv => whnf)
            rw [if_neg (by simp [h5])] at ht
            exact ⟨rfl, rfl, n - 1, _, by omega, Weak.refl _, k + 1, rfl, by omega, ht, rfl⟩
  · conv => whnf
    refine ⟨rfl, ?_⟩
    conv => whnf
    have : l.drop k = [] := List.drop_eq_nil_of_le (by omega)
    rw [this] at ht
    rw [knE_nil] at ht
    exact fin (Weak.refl _) (ht ▸ hR)
end Go.Proofs.Ytpblnfldhicfgaa.A
