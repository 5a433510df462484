/- Two asks in both orders; the sum of what is owed. -/
import Derived.Test.YtpblnfldhicfgaaC8
namespace Go.Proofs.Ytpblnfldhicfgaa.A
open Go Go.RowKit
set_option linter.unusedVariables false
set_option linter.unusedSimpArgs false
set_option maxRecDepth 20000

theorem knE_congr {B B' : Bk} (h1 : B'.lim = B.lim) (h2 : B'.rem = B.rem) : ∀ (l b : List Int), knE B' b l = knE B b l
  | [], b => rfl
  | p :: r, b => by rw [knE_cons, knE_cons, h1, h2, knE_congr h1 h2 r (b ++ [p])]
/-- Two books have spent and owe the same. -/
structure SameQ (B B' : Bk) : Prop where
  lim : B'.lim = B.lim
  most : B'.most = B.most
  sp : ∀ k : Nat, k < B.lim.length → (getf B.sp k).q = (getf B'.sp k).q
  owed : ∀ k : Nat, k < B.most.length → (getf B.owed k).q = (getf B'.owed k).q
section
variable {B : Bk} {X Y : List Int} {cx cy : Fr} {N : Int}
theorem order (hB : okB B) (hG : GridB N B) (hx : Cost12 144 cx) (hy : Cost12 144 cy) (lx : X.length ≤ 3) (ly : Y.length ≤ 3) (hN : N ≤ 1000000)
    (h : (askB B X cx).2 = 0 ∧ (askB (askB B X cx).1 Y cy).2 = 0) :
    ((askB B Y cy).2 = 0 ∧ (askB (askB B Y cy).1 X cx).2 = 0) ∧ SameQ (askB (askB B X cx).1 Y cy).1 (askB (askB B Y cy).1 X cx).1 := by
  obtain ⟨h1, h2⟩ := h
  have nx := q_nn hx.ok.2
  have ny := q_nn hy.ok.2
  have a1 := (askQ hB hG hx lx (by omega) (by omega)).1 h1
  have d1 := askedQ hB hG hx lx (by omega) (by omega) h1
  have hB1 := hB.ask X cx
  have hG1 := ask_grid hB hG hx lx (by omega) (by omega)
  have a2 := (askQ hB1 hG1 hy ly (by omega) (by omega)).1 h2
  have d2 := askedQ hB1 hG1 hy ly (by omega) (by omega) h2
  have hin1 := knE_in a1.kn
  have kn2 : knE B [] Y = 0 := by rw [← knE_congr d1.lim d1.rem]; exact a2.kn
  have hin2 := knE_in kn2
  have b1 : AskQ B Y cy := by
    refine ⟨a2.l0, kn2, fun p hp => ?_, fun o ho hc => ?_⟩
    · have h3 := a2.add p hp
      have h4 := hin2 p hp
      rw [d1.lim, d1.sp p h4.1 h4.2] at h3
      split at h3 <;> grind
    · have h3 := a2.owe o (by rw [d1.most]; exact ho) (by rw [d1.own]; exact hc)
      rw [d1.most, d1.owed o ho, d1.own] at h3
      have := Rat.mul_nonneg nx (wt_nn B.own X o)
      grind
  have e1 := (askQ hB hG hy ly (by omega) (by omega)).2 b1
  have f1 := askedQ hB hG hy ly (by omega) (by omega) e1
  have hB2 := hB.ask Y cy
  have hG2 := ask_grid hB hG hy ly (by omega) (by omega)
  have b2 : AskQ (askB B Y cy).1 X cx := by
    refine ⟨a1.l0, by rw [knE_congr f1.lim f1.rem]; exact a1.kn, fun p hp => ?_, fun o ho hc => ?_⟩
    · have h4 := hin1 p hp
      rw [f1.lim, f1.sp p h4.1 h4.2]
      split
      · rename_i hpy
        have h3 := a2.add p hpy
        rw [d1.lim, d1.sp p h4.1 h4.2, if_pos hp] at h3
        grind
      · have := a1.add p hp
        grind
    · rw [f1.most] at ho
      rw [f1.own] at hc
      rw [f1.most, f1.own, f1.owed o ho]
      by_cases hcy : cnt B.own Y o = 0
      · rw [wt_0 hcy a2.l0 ly]
        have := a1.owe o ho hc
        grind
      · have h3 := a2.owe o (by rw [d1.most]; exact ho) (by rw [d1.own]; exact hcy)
        rw [d1.most, d1.owed o ho, d1.own] at h3
        grind
  have e2 := (askQ hB2 hG2 hx lx (by omega) (by omega)).2 b2
  have f2 := askedQ hB2 hG2 hx lx (by omega) (by omega) e2
  refine ⟨⟨e1, e2⟩, by rw [f2.lim, f1.lim, d2.lim, d1.lim], by rw [f2.most, f1.most, d2.most, d1.most], fun k hk => ?_, fun k hk => ?_⟩
  · rw [d2.lim, d1.lim] at hk
    rw [d2.sp k (by omega) (by rw [d1.lim]; omega), d1.sp k (by omega) (by omega), f2.sp k (by omega) (by rw [f1.lim]; omega), f1.sp k (by omega) (by omega)]
    grind
  · rw [d2.most, d1.most] at hk
    rw [d2.owed k (by rw [d1.most]; exact hk), d1.owed k hk, f2.owed k (by rw [f1.most]; exact hk), f1.owed k hk, d1.own, f1.own]
    grind
theorem once {c d e : Fr} (hB : okB B) (hG : GridB N B) (hc : Cost12 72 c) (hd : Cost12 72 d) (he : Cost12 144 e) (lx : X.length ≤ 3) (hN : N ≤ 1000000) (hq : e.q = c.q + d.q) :
    ((askB B X c).2 = 0 ∧ (askB (askB B X c).1 X d).2 = 0 ↔ (askB B X e).2 = 0) ∧ ((askB B X e).2 = 0 → SameQ (askB B X e).1 (askB (askB B X c).1 X d).1) := by
  have nc := q_nn hc.ok.2
  have nd := q_nn hd.ok.2
  have hB1 := hB.ask X c
  have hG1 := ask_grid hB hG hc lx (by omega) (by omega)
  have key : (askB B X e).2 = 0 → ((askB B X c).2 = 0 ∧ (askB (askB B X c).1 X d).2 = 0) := fun h => by
    have a := (askQ hB hG he lx (by omega) (by omega)).1 h
    have hin := knE_in a.kn
    have b : AskQ B X c := ⟨a.l0, a.kn, fun p hp => by have := a.add p hp; grind, fun o ho hcn => by
      have := a.owe o ho hcn
      have := Rat.mul_nonneg nd (wt_nn B.own X o)
      rw [hq] at *
      grind⟩
    have h1 := (askQ hB hG hc lx (by omega) (by omega)).2 b
    have d1 := askedQ hB hG hc lx (by omega) (by omega) h1
    refine ⟨h1, (askQ hB1 hG1 hd lx (by omega) (by omega)).2 ⟨a.l0, by rw [knE_congr d1.lim d1.rem]; exact a.kn, fun p hp => ?_, fun o ho hcn => ?_⟩⟩
    · have h4 := hin p hp
      rw [d1.lim, d1.sp p h4.1 h4.2, if_pos hp]
      have := a.add p hp
      grind
    · rw [d1.most] at ho
      rw [d1.own] at hcn
      rw [d1.most, d1.own, d1.owed o ho]
      have := a.owe o ho hcn
      rw [hq] at this
      grind
  refine ⟨⟨fun ⟨h1, h2⟩ => ?_, key⟩, fun h => ?_⟩
  · have a1 := (askQ hB hG hc lx (by omega) (by omega)).1 h1
    have d1 := askedQ hB hG hc lx (by omega) (by omega) h1
    have a2 := (askQ hB1 hG1 hd lx (by omega) (by omega)).1 h2
    have hin := knE_in a1.kn
    refine (askQ hB hG he lx (by omega) (by omega)).2 ⟨a1.l0, a1.kn, fun p hp => ?_, fun o ho hcn => ?_⟩
    · have h4 := hin p hp
      have := a2.add p hp
      rw [d1.lim, d1.sp p h4.1 h4.2, if_pos hp] at this
      grind
    · have := a2.owe o (by rw [d1.most]; exact ho) (by rw [d1.own]; exact hcn)
      rw [d1.most, d1.own, d1.owed o ho] at this
      rw [hq]
      grind
  · obtain ⟨h1, h2⟩ := key h
    have d1 := askedQ hB hG hc lx (by omega) (by omega) h1
    have d2 := askedQ hB1 hG1 hd lx (by omega) (by omega) h2
    have d3 := askedQ hB hG he lx (by omega) (by omega) h
    refine ⟨by rw [d2.lim, d1.lim, d3.lim], by rw [d2.most, d1.most, d3.most], fun k hk => ?_, fun k hk => ?_⟩
    · rw [d3.lim] at hk
      rw [d3.sp k (by omega) (by omega), d2.sp k (by omega) (by rw [d1.lim]; omega), d1.sp k (by omega) (by omega)]
      split <;> grind
    · rw [d3.most] at hk
      rw [d3.owed k hk, d2.owed k (by rw [d1.most]; exact hk), d1.owed k hk, d1.own, hq]
      grind
end

/-! ### Sums -/
def sumQ : Nat → (Nat → Rat) → Rat
  | 0, _ => 0
  | n + 1, f => sumQ n f + f n
theorem sumQ_congr {f g : Nat → Rat} : ∀ {n : Nat}, (∀ k, k < n → f k = g k) → sumQ n f = sumQ n g
  | 0, _ => rfl
  | n + 1, h => by rw [sumQ, sumQ, sumQ_congr (n := n) (fun k hk => h k (by omega)), h n (by omega)]
theorem sumQ_add (f g : Nat → Rat) : ∀ n : Nat, sumQ n (fun k => f k + g k) = sumQ n f + sumQ n g
  | 0 => by simp [sumQ, Rat.add_zero]
  | n + 1 => by rw [sumQ, sumQ, sumQ, sumQ_add f g n]; grind
theorem sumQ_mul (c : Rat) (f : Nat → Rat) : ∀ n : Nat, sumQ n (fun k => c * f k) = c * sumQ n f
  | 0 => by simp [sumQ, Rat.mul_zero]
  | n + 1 => by rw [sumQ, sumQ, sumQ_mul c f n]; grind
theorem sumQ_zero : ∀ n : Nat, sumQ n (fun _ => 0) = 0
  | 0 => rfl
  | n + 1 => by rw [sumQ, sumQ_zero n, Rat.add_zero]
theorem sumQ_one {x : Int} : ∀ {m : Nat}, 0 ≤ x → x < m → sumQ m (fun o => if x = o then 1 else 0) = 1
  | 0, h0, h1 => by omega
  | m + 1, h0, h1 => by
    rw [sumQ]
    by_cases h : x = m
    · rw [if_pos h, sumQ_congr (g := fun _ => 0) (fun k hk => if_neg (by omega)), sumQ_zero]; grind
    · rw [if_neg h, sumQ_one (m := m) h0 (by omega)]; grind
theorem cnt_cons (own : List Int) (p : Int) (l : List Int) (o : Int) : cnt own (p :: l) o = (if geti own p = o then 1 else 0) + cnt own l o := by
  unfold cnt
  rw [List.filter_cons]
  by_cases h : geti own p = o <;> simp [h]; omega
theorem sum_cnt {own : List Int} {m : Nat} : ∀ {l : List Int}, (∀ p ∈ l, 0 ≤ geti own p ∧ geti own p < m) → sumQ m (fun o => ((cnt own l o : Int) : Rat)) = ((l.length : Int) : Rat)
  | [], _ => (sumQ_congr (g := fun _ => 0) (fun k _ => rfl)).trans (sumQ_zero m)
  | p :: l, h => by
    have h1 := h p List.mem_cons_self
    have h2 := sum_cnt (l := l) (fun q hq => h q (List.mem_cons_of_mem _ hq))
    rw [sumQ_congr (g := fun o => (if geti own p = o then 1 else 0) + ((cnt own l o : Int) : Rat)) (fun k _ => ?_), sumQ_add, h2, sumQ_one h1.1 h1.2, List.length_cons, Int.natCast_add, Rat.intCast_add]
    · rw [Rat.add_comm]; rfl
    · rw [cnt_cons, Int.natCast_add, Rat.intCast_add]
      congr 1
      split <;> rfl
theorem sum_wt {own l : List Int} {m : Nat} (h0 : l.length ≠ 0) (hl : l.length ≤ 3) (h : ∀ p ∈ l, 0 ≤ geti own p ∧ geti own p < m) : sumQ m (wt own l) = 1 := by
  have hpos : (0 : Rat) < ((l.length : Int) : Rat) := posQ (by omega)
  refine q_cancel hpos ?_
  have e : sumQ m (fun k => ((l.length : Int) : Rat) * wt own l k) = sumQ m (fun o => ((cnt own l o : Int) : Rat)) := sumQ_congr fun k _ => by
    rw [Rat.mul_comm]
    exact (part_6 (cnt_le own l k) (by omega) hl).2.1
  rw [sumQ_mul, sum_cnt h] at e
  rw [Rat.mul_comm, e, Rat.one_mul]
def tot (B : Bk) : Rat := sumQ B.most.length fun o => (getf B.owed o).q
theorem asked_tot {B B' : Bk} {l : List Int} {c : Fr} (hB : okB B) (hk : AskQ B l c) (hd : AskedQ B l c B') (hl : l.length ≤ 3) : tot B' = tot B + c.q := by
  have hin := knE_in hk.kn
  have hw : sumQ B.most.length (wt B.own l) = 1 := sum_wt hk.l0 hl fun p hp => by
    have := hin p hp
    exact hB.own _ (geti_mem this.1 (by rw [hB.l2]; exact this.2))
  unfold tot
  rw [hd.most, sumQ_congr hd.owed, sumQ_add, sumQ_mul, hw, Rat.mul_one]
end Go.Proofs.Ytpblnfldhicfgaa.A
