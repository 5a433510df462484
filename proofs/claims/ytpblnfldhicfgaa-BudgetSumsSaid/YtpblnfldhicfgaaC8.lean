/- Numbers with a common denominator: no sum is out of range. -/
import Derived.Test.YtpblnfldhicfgaaC6
namespace Go.Proofs.Ytpblnfldhicfgaa.A
open Go Go.RowKit
set_option linter.unusedVariables false
set_option linter.unusedSimpArgs false
set_option maxRecDepth 20000

structure Grid (N : Int) (a : Fr) : Prop where
  ok : okF a
  n : ∃ n : Int, a.q * (72 : Rat) = (n : Rat) ∧ 0 ≤ n ∧ n ≤ N
theorem Grid.mono {N M : Int} {a : Fr} (h : Grid N a) (hm : N ≤ M) : Grid M a := by
  obtain ⟨n, h1, h2, h3⟩ := h.n
  exact ⟨h.ok, n, h1, h2, by omega⟩
structure Cost12 (M : Int) (a : Fr) : Prop where
  ok : okC a
  m : ∃ m : Int, a.q * (12 : Rat) = (m : Rat) ∧ 0 ≤ m ∧ m ≤ M
theorem Cost12.mono {N M : Int} {a : Fr} (h : Cost12 N a) (hm : N ≤ M) : Cost12 M a := by
  obtain ⟨n, h1, h2, h3⟩ := h.m
  exact ⟨h.ok, n, h1, h2, by omega⟩
theorem Cost12.grid {M : Int} {a : Fr} (h : Cost12 M a) : Grid (6 * M) a := by
  obtain ⟨n, h1, h2, h3⟩ := h.m
  refine ⟨h.ok.1, 6 * n, ?_, by omega, by omega⟩
  rw [Rat.intCast_mul, ← h1, show ((6 : Int) : Rat) = 6 from rfl]
  grind
theorem Grid.zero {N : Int} (h : 0 ≤ N) : Grid N ⟨0, 0⟩ := ⟨.inl ⟨rfl, rfl⟩, 0, by rw [q_zero, Rat.zero_mul]; rfl, by omega, by omega⟩
theorem Cost12.zero {N : Int} (h : 0 ≤ N) : Cost12 N ⟨0, 0⟩ := ⟨⟨.inl ⟨rfl, rfl⟩, Int.le_refl _⟩, 0, by rw [q_zero, Rat.zero_mul]; rfl, by omega, by omega⟩
theorem Grid.fit {N M : Int} {a b : Fr} (ha : Grid N a) (hb : Grid M b) (h : N + M ≤ 2147483648) : (addF a b).2 = 0 := by
  obtain ⟨n, h1, h2, h3⟩ := ha.n
  obtain ⟨m, h4, h5, h6⟩ := hb.n
  refine addF_fit ha.ok hb.ok (n := n + m) (d := 72) (by omega) (by omega) (by omega) ?_
  rw [Rat.intCast_add, ← h1, ← h4, show ((72 : Int) : Rat) = 72 from rfl]
  grind
theorem Grid.add {N M : Int} {a b : Fr} (ha : Grid N a) (hb : Grid M b) (h : N + M ≤ 2147483648) : Grid (N + M) (addF a b).1 ∧ (addF a b).1.q = a.q + b.q := by
  have hq := addF_q ha.ok hb.ok (ha.fit hb h)
  refine ⟨⟨addF_okF _ _, ?_⟩, hq⟩
  obtain ⟨n, h1, h2, h3⟩ := ha.n
  obtain ⟨m, h4, h5, h6⟩ := hb.n
  refine ⟨n + m, ?_, by omega, by omega⟩
  rw [hq, Rat.intCast_add, ← h1, ← h4]
  grind
theorem Cost12.add {N M : Int} {a b : Fr} (ha : Cost12 N a) (hb : Cost12 M b) (h : N + M ≤ 300000) : (addF a b).2 = 0 ∧ Cost12 (N + M) (addF a b).1 ∧ (addF a b).1.q = a.q + b.q := by
  have hf := ha.grid.fit hb.grid (by omega)
  have hq := addF_q ha.ok.1 hb.ok.1 hf
  have hn : 0 ≤ (addF a b).1.q := by
    rw [hq]; have := q_nn ha.ok.2; have := q_nn hb.ok.2; grind
  refine ⟨hf, ⟨⟨addF_okF _ _, ?_⟩, ?_⟩, hq⟩
  · have h1 := q_mul (addF a b).1
    have h2 := den_posQ (addF a b).1
    rw [← Rat.intCast_nonneg, ← h1]
    exact Rat.mul_nonneg hn (Rat.le_of_lt h2)
  · obtain ⟨n, h1, h2, h3⟩ := ha.m
    obtain ⟨m, h4, h5, h6⟩ := hb.m
    refine ⟨n + m, ?_, by omega, by omega⟩
    rw [hq, Rat.intCast_add, ← h1, ← h4]
    grind
theorem costF_12 (n : Int) : Cost12 72 (costF n) := by
  unfold costF
  have hx := around_bd (n.tdiv 5) 7 (by omega)
  have hk := around_bd n 5 (by omega)
  generalize around (n.tdiv 5) 7 = x at *
  generalize around n 5 = k at *
  have key : ∀ q z : Int, 1 ≤ q → q ≤ 6 → q * z = 12 → 0 ≤ z → z ≤ 12 → Cost12 72 (mkF x q).1 := by
    intro q z h1 h2 h3 h4 h5
    have hf : (mkF x q).2 = 0 := mkF_fit (by omega) (show 0 < q by omega) (n := x) rfl (by omega) (by omega)
    have hq := mkF_q (by omega) hf
    refine ⟨⟨mkF_ok _ _, mkF_nn (by omega) (by omega)⟩, x * z, ?_, Int.mul_nonneg hx.1 h4, ?_⟩
    · rw [Rat.intCast_mul, ← hq, show (12 : Rat) = ((12 : Int) : Rat) from rfl, ← h3, Rat.intCast_mul]
      grind
    · have e1 : x * z ≤ 6 * z := Int.mul_le_mul_of_nonneg_right (by omega) h4
      omega
  have h5 : k = 0 ∨ k = 1 ∨ k = 2 ∨ k = 3 ∨ k = 4 := by omega
  rcases h5 with rfl | rfl | rfl | rfl | rfl
  · exact key 1 12 (by omega) (by omega) (by omega) (by omega) (by omega)
  · exact key 2 6 (by omega) (by omega) (by omega) (by omega) (by omega)
  · exact key 3 4 (by omega) (by omega) (by omega) (by omega) (by omega)
  · exact key 4 3 (by omega) (by omega) (by omega) (by omega) (by omega)
  · exact key 6 2 (by omega) (by omega) (by omega) (by omega) (by omega)
/-- A part: so many of at most three. -/
theorem part_6 {k n : Nat} (hk : k ≤ n) (h0 : 0 < n) (hn : n ≤ 3) : (mkF k n).2 = 0 ∧ (mkF k n).1.q * ((n : Int) : Rat) = ((k : Int) : Rat) ∧ ∃ j : Int, (mkF k n).1.q * (6 : Rat) = (j : Rat) ∧ 0 ≤ j ∧ j ≤ 6 := by
  have hf : (mkF k n).2 = 0 := mkF_fit (by omega) (show 0 < (n : Int) by omega) (n := k) rfl (by omega) (by omega)
  have hq := mkF_q (p := k) (q := n) (by omega) hf
  have hq' : (mkF k n).1.q * ((n : Int) : Rat) = ((k : Int) : Rat) := hq
  refine ⟨hf, hq', ?_⟩
  have h3 : n = 1 ∨ n = 2 ∨ n = 3 := by omega
  rcases h3 with rfl | rfl | rfl
  · refine ⟨6 * k, ?_, by omega, by omega⟩
    rw [Rat.intCast_mul, ← hq', show ((6 : Int) : Rat) = 6 from rfl, show (((1 : Nat) : Int) : Rat) = 1 from rfl]; grind
  · refine ⟨3 * k, ?_, by omega, by omega⟩
    rw [Rat.intCast_mul, ← hq', show ((3 : Int) : Rat) = 3 from rfl, show (((2 : Nat) : Int) : Rat) = 2 from rfl]; grind
  · refine ⟨2 * k, ?_, by omega, by omega⟩
    rw [Rat.intCast_mul, ← hq', show ((2 : Int) : Rat) = 2 from rfl, show (((3 : Nat) : Int) : Rat) = 3 from rfl]; grind
/-- The part of a cost that an owner owes. -/
def wt (own l : List Int) (o : Nat) : Rat := (mkF (cnt own l o) l.length).1.q
theorem ptF_grid {B : Bk} {l : List Int} {c : Fr} {M : Int} (h0 : l.length ≠ 0) (hl : l.length ≤ 3) (hc : Cost12 M c) (hM : M ≤ 300000000) (o : Nat) : (ptF B l c o).2 = 0 ∧ Grid (6 * M) (ptF B l c o).1 ∧ (ptF B l c o).1.q = c.q * wt B.own l o := by
  obtain ⟨hf, hq, j, h1, h2, h3⟩ := part_6 (cnt_le B.own l o) (by omega) hl
  obtain ⟨m, h4, h5, h6⟩ := hc.m
  have hm : m * j ≤ 6 * M := by
    have e1 : m * j ≤ m * 6 := Int.mul_le_mul_of_nonneg_left h3 h5
    omega
  have e72 : c.q * (mkF (cnt B.own l o) l.length).1.q * (72 : Rat) = ((m * j : Int) : Rat) := by
    rw [Rat.intCast_mul, ← h4, ← h1]; grind
  have h7 := Int.mul_nonneg h5 h2
  have hfit : (ptF B l c o).2 = 0 := mulF_fit hc.ok.1 (mkF_ok _ _) (n := m * j) (d := 72) (by omega) (by omega) (by omega) e72
  have hpq : (ptF B l c o).1.q = c.q * wt B.own l o := mulF_q hc.ok.1 (mkF_ok _ _) hfit
  exact ⟨hfit, ⟨mulF_okF _ _, m * j, by rw [hpq]; exact e72, h7, hm⟩, hpq⟩
structure GridB (N : Int) (B : Bk) : Prop where
  sp : ∀ x ∈ B.sp, Grid N x
  owed : ∀ x ∈ B.owed, Grid N x
theorem GridB.mono {N M : Int} {B : Bk} (h : GridB N B) (hm : N ≤ M) : GridB M B := ⟨fun x hx => (h.sp x hx).mono hm, fun x hx => (h.owed x hx).mono hm⟩
theorem GridB.spk {N : Int} {B : Bk} (h : GridB N B) (hB : okB B) {k : Int} (h0 : 0 ≤ k) (h1 : k < B.lim.length) : Grid N (getf B.sp k) := h.sp _ (getf_mem h0 (by rw [hB.l1]; exact h1))
theorem GridB.owedk {N : Int} {B : Bk} (h : GridB N B) (hB : okB B) {k : Nat} (h1 : k < B.most.length) : Grid N (getf B.owed k) := h.owed _ (getf_mem (by omega) (by rw [hB.l4]; omega))

/-- The same in rational numbers. -/
structure AskQ (B : Bk) (l : List Int) (c : Fr) : Prop where
  l0 : l.length ≠ 0
  kn : knE B [] l = 0
  add : ∀ p ∈ l, (getf B.sp p).q + c.q ≤ (getf B.lim p).q
  owe : ∀ o : Nat, o < B.most.length → cnt B.own l o ≠ 0 → (getf B.owed o).q + c.q * wt B.own l o ≤ (getf B.most o).q
structure AskedQ (B : Bk) (l : List Int) (c : Fr) (B' : Bk) : Prop where
  lim : B'.lim = B.lim
  own : B'.own = B.own
  rem : B'.rem = B.rem
  most : B'.most = B.most
  sp : ∀ k : Int, 0 ≤ k → k < B.lim.length → (getf B'.sp k).q = (getf B.sp k).q + if k ∈ l then c.q else 0
  owed : ∀ k : Nat, k < B.most.length → (getf B'.owed k).q = (getf B.owed k).q + c.q * wt B.own l k
theorem wt_0 {own l : List Int} {o : Nat} (h : cnt own l o = 0) (h0 : l.length ≠ 0) (hl : l.length ≤ 3) : wt own l o = 0 := by
  obtain ⟨hf, hq, _⟩ := part_6 (cnt_le own l o) (by omega) hl
  unfold wt
  have : (0 : Rat) < ((l.length : Int) : Rat) := posQ (by omega)
  refine q_cancel this ?_
  rw [hq, h, Rat.zero_mul]; rfl
theorem wt_nn (own l : List Int) (o : Nat) : 0 ≤ wt own l o := q_nn (mkF_nn (by omega) (by omega))
section
variable {B : Bk} {l : List Int} {c : Fr} {N M : Int}
theorem askQ (hB : okB B) (hg : GridB N B) (hc : Cost12 M c) (hl : l.length ≤ 3) (hN : N + 6 * M ≤ 2147483648) (hM : M ≤ 300000000) : (askB B l c).2 = 0 ↔ AskQ B l c := by
  rw [ask_iff hB]
  constructor
  · intro h
    have hin := knE_in h.kn
    refine ⟨h.l0, h.kn, fun p hp => ?_, fun o ho hcn => ?_⟩
    · have h1 := (h.add p hp).2
      have h2 := hin p hp
      rw [cmpF_pos (addF_okF _ _) (hB.limk h2.1 h2.2), addF_q (hB.spk h2.1 h2.2) hc.ok.1 (h.add p hp).1] at h1
      exact Rat.not_lt.1 h1
    · have h1 := h.owe o ho hcn
      have h2 := (ptF_grid (B := B) h.l0 hl hc hM o).2.2
      have h3 := h1.2.2
      rw [cmpF_pos (addF_okF _ _) (hB.mostk ho), addF_q (hB.owedk ho) (ptF_okF _ _ _ _) h1.2.1, h2] at h3
      exact Rat.not_lt.1 h3
  · intro h
    have hin := knE_in h.kn
    refine ⟨h.l0, hc.ok, h.kn, fun p hp => ?_, fun o ho hcn => ?_⟩
    · have h2 := hin p hp
      have h3 := (hg.spk hB h2.1 h2.2).fit hc.grid hN
      refine ⟨h3, ?_⟩
      rw [cmpF_pos (addF_okF _ _) (hB.limk h2.1 h2.2), addF_q (hB.spk h2.1 h2.2) hc.ok.1 h3]
      exact Rat.not_lt.2 (h.add p hp)
    · obtain ⟨h1, h2, h4⟩ := ptF_grid (B := B) h.l0 hl hc hM o
      have h3 := (hg.owedk hB ho).fit h2 hN
      refine ⟨h1, h3, ?_⟩
      rw [cmpF_pos (addF_okF _ _) (hB.mostk ho), addF_q (hB.owedk ho) (ptF_okF _ _ _ _) h3, h4]
      exact Rat.not_lt.2 (h.owe o ho hcn)
theorem askedQ (hB : okB B) (hg : GridB N B) (hc : Cost12 M c) (hl : l.length ≤ 3) (hN : N + 6 * M ≤ 2147483648) (hM : M ≤ 300000000) (h : (askB B l c).2 = 0) : AskedQ B l c (askB B l c).1 := by
  have hok := (ask_iff hB).1 h
  have hd := ask_did hB h
  refine ⟨hd.lim, hd.own, hd.rem, hd.most, fun k h0 h1 => ?_, fun k h1 => ?_⟩
  · rw [hd.sp k h0]
    split
    · rename_i hm
      exact addF_q (hB.spk h0 h1) hok.ok.1 (hok.add k hm).1
    · rw [Rat.add_zero]
  · rw [hd.owed k h1]
    have h2 := (ptF_grid (B := B) hok.l0 hl hc hM k).2.2
    split
    · rename_i hm
      rw [addF_q (hB.owedk h1) (ptF_okF _ _ _ _) (hok.owe k h1 hm).2.1, h2]
    · rename_i hm
      rw [wt_0 (Classical.not_not.1 hm) hok.l0 hl, Rat.mul_zero, Rat.add_zero]
theorem ask_grid (hB : okB B) (hg : GridB N B) (hc : Cost12 M c) (hl : l.length ≤ 3) (hN : N + 6 * M ≤ 2147483648) (hM : 0 ≤ M ∧ M ≤ 300000000) : GridB (N + 6 * M) (askB B l c).1 := by
  by_cases h : (askB B l c).2 = 0
  · have hok := (ask_iff hB).1 h
    have hd := ask_did hB h
    have hB' := hB.ask l c
    refine ⟨fun x hx => ?_, fun x hx => ?_⟩
    · obtain ⟨k, hk, rfl⟩ := List.getElem_of_mem hx
      have hk' : k < B.lim.length := by have := hB'.l1; rw [hd.lim] at this; omega
      rw [← getf_at hk, hd.sp k (by omega)]
      have h1 := hg.spk hB (k := (k : Int)) (by omega) (by omega)
      split
      · exact (h1.add hc.grid hN).1
      · exact h1.mono (by omega)
    · obtain ⟨k, hk, rfl⟩ := List.getElem_of_mem hx
      have hk' : k < B.most.length := by have := hB'.l4; rw [hd.most] at this; omega
      rw [← getf_at hk, hd.owed k hk']
      have h1 := hg.owedk hB hk'
      split
      · exact (h1.add (ptF_grid (B := B) hok.l0 hl hc hM.2 k).2.1 hN).1
      · exact h1.mono (by omega)
  · rw [(ask_no hB (fun h' => h ((ask_iff hB).2 h'))).1]
    exact hg.mono (by omega)
end
/-- An act of a script. -/
structure acScr (x : Ac) : Prop where
  n : x.ps.length ≤ 3
  c : Cost12 72 x.cost
theorem act_grid {B : Bk} {N : Int} {x : Ac} (hB : okB B) (hg : GridB N B) (hx : acScr x) (hN : N + 432 ≤ 2147483648) : GridB (N + 432) (actB B x).1 := by
  unfold actB
  split
  · have : GridB N (remB B (geti x.ps 0)).1 := by
      unfold remB; split
      · exact hg
      · split
        · exact hg
        · exact ⟨hg.sp, hg.owed⟩
    exact this.mono (by omega)
  · exact ask_grid hB hg hx.c hx.n (by omega) (by omega)
theorem scAct_scr (l : List Int) (n : Int) (i : Nat) : acScr (scAct l n i) := ⟨by show (scPs l n i (scK l i)).length ≤ 3; rw [scPs_length]; exact scK_bd l i, costF_12 _⟩
theorem script_scr {l : List Int} {n : Int} : ∀ x ∈ script l n, acScr x := by
  intro x hx
  simp only [script, scriptN, List.mem_map] at hx
  obtain ⟨i, _, rfl⟩ := hx
  exact scAct_scr l n i
theorem beg_grid (l : List Int) : GridB 0 (begB l) := by
  refine ⟨fun x hx => ?_, fun x hx => ?_⟩
  · have : x ∈ List.replicate (bgP l).length (⟨0, 0⟩ : Fr) := hx
    rw [List.eq_of_mem_replicate this]; exact Grid.zero (by omega)
  · have : x ∈ List.replicate (bgQ l).length (⟨0, 0⟩ : Fr) := hx
    rw [List.eq_of_mem_replicate this]; exact Grid.zero (by omega)
end Go.Proofs.Ytpblnfldhicfgaa.A
