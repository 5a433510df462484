/- Neighbours: what one person changes. -/
import Derived.Test.YtohdcmkooedkcaaN4
import Derived.Test.YtohdcmkooedkcaaT9
import Derived.Test.YtohdcmkooedkcaaT5
namespace Go.Proofs.Ytohdcmkooedkcaa.A
open Go Go.RowKit
set_option linter.unusedVariables false
set_option linter.unusedSimpArgs false
set_option maxRecDepth 20000

def valF (p f : Int) (rs : List RV) : Int := rs.foldl (fun acc x => if x.r.p = p then geti x.r.vs f else acc) (-1)
theorem valF_snoc (p f : Int) (rs : List RV) (x : RV) : valF p f (rs ++ [x]) = if x.r.p = p then geti x.r.vs f else valF p f rs := by simp [valF]
theorem valF_none {p f : Int} {rs : List RV} (h : ∀ x ∈ rs, x.r.p ≠ p) (a : Int) : rs.foldl (fun acc x => if x.r.p = p then geti x.r.vs f else acc) a = a := by
  induction rs generalizing a with
  | nil => rfl
  | cons x xs ih =>
    rw [List.foldl_cons, if_neg (h x List.mem_cons_self)]
    exact ih (fun y hy => h y (List.mem_cons_of_mem _ hy)) a
theorem split_p {p : Int} {rs : List RV} (h : (rs.map (·.r.p)).Nodup) : (∀ x ∈ rs, x.r.p ≠ p) ∨ ∃ a x b, rs = a ++ x :: b ∧ x.r.p = p ∧ (∀ y ∈ a, y.r.p ≠ p) ∧ ∀ y ∈ b, y.r.p ≠ p := by
  induction rs with
  | nil => left; simp
  | cons x xs ih =>
    rw [List.map_cons, List.nodup_cons] at h
    by_cases hx : x.r.p = p
    · right
      exact ⟨[], x, xs, rfl, hx, by simp, fun y hy e => h.1 (List.mem_map.2 ⟨y, hy, by rw [e, hx]⟩)⟩
    · rcases ih h.2 with h1 | ⟨a, y, b, e, h2, h3, h4⟩
      · left
        intro y hy
        rcases List.mem_cons.1 hy with rfl | hy
        · exact hx
        · exact h1 y hy
      · right
        exact ⟨x :: a, y, b, by rw [e]; rfl, h2, fun z hz => by
          rcases List.mem_cons.1 hz with rfl | hz
          · exact hx
          · exact h3 z hz, h4⟩
theorem filter_no {p : Int} {rs : List RV} (h : ∀ x ∈ rs, x.r.p ≠ p) : rs.filter (keepP p) = rs := List.filter_eq_self.2 fun x hx => by
  unfold keepP
  exact decide_eq_true (h x hx)
/-- What the others are, and how often each value is met. -/
theorem without_cnt {p f : Int} {rs : List RV} (h : (rs.map (·.r.p)).Nodup) : rs.length ≤ (rs.filter (keepP p)).length + 1 ∧
    ∀ v : Nat, (cntL (fieldL rs f) v = cntL (fieldL (rs.filter (keepP p)) f) v) ∨ ((v : Int) = valF p f rs ∧ cntL (fieldL rs f) v = cntL (fieldL (rs.filter (keepP p)) f) v + 1) := by
  rcases split_p (p := p) h with h1 | ⟨a, x, b, e, h2, h3, h4⟩
  · rw [filter_no h1]
    exact ⟨by omega, fun v => .inl rfl⟩
  · have hf : rs.filter (keepP p) = a ++ b := by
      rw [e, List.filter_append, List.filter_cons, filter_no h3, filter_no h4]
      simp [keepP, h2]
    have hv : valF p f rs = geti x.r.vs f := by
      rw [e]
      unfold valF
      rw [List.foldl_append, List.foldl_cons, if_pos h2]
      exact valF_none h4 _
    rw [hf]
    refine ⟨by rw [e]; simp; omega, fun v => ?_⟩
    rw [e, ← e, hv]
    have hc : cntL (fieldL rs f) v = cntL (fieldL (a ++ b) f) v + if (v : Int) = geti x.r.vs f then 1 else 0 := by
      rw [e]
      unfold cntL fieldL
      rw [List.map_append, List.map_append, List.map_cons, List.count_append, List.count_append, List.count_cons]
      by_cases hx : (v : Int) = geti x.r.vs f
      · simp [hx]; omega
      · have : ¬ geti x.r.vs f = (v : Int) := fun e => hx e.symm
        simp [hx, this]
    by_cases hx : (v : Int) = geti x.r.vs f
    · right; rw [if_pos hx] at hc; exact ⟨hx, hc⟩
    · left; rw [if_neg hx] at hc; omega
theorem minM_step {c d most : Int} (h : c = d + 1) : minM c most = minM d most ∨ minM c most = minM d most + 1 := by
  unfold minM
  split <;> split <;> omega
/-- The weights without the person: the same but at the person's value; nowhere more than 2^cost times the other. -/
theorem wt_near {p f k : Int} {rs : List RV} (h : (rs.map (·.r.p)).Nodup) (h1 : 1 ≤ k) (h2 : k ≤ 12) (ans : List Int) (v : Nat) (ha : 0 ≤ geti ans v) (hb : geti ans v ≤ mostF k) :
    ((v : Int) ≠ valF p f rs → wtOf rs f k ans v = wtOf (rs.filter (keepP p)) f k ans v) ∧
    wtOf rs f k ans v ≤ wtOf (rs.filter (keepP p)) f k ans v * p2 k ∧ wtOf (rs.filter (keepP p)) f k ans v ≤ wtOf rs f k ans v * p2 k := by
  have hm := mostF_bd h1 h2
  have ok1 := minM_ok (l := fieldL rs f) (v := (v : Int)) h1 h2
  have ok2 := minM_ok (l := fieldL (rs.filter (keepP p)) f) (v := (v : Int)) h1 h2
  have b1 := wtF_bd ok1 ha hb
  have b2 := wtF_bd ok2 ha hb
  have hk2 : 1 ≤ p2 k := p2_pos k
  have up : ∀ a : Int, 1 ≤ a → a ≤ a * p2 k := fun a ha => by
    have := Int.mul_le_mul_of_nonneg_left hk2 (show 0 ≤ a by omega)
    omega
  unfold wtOf
  have hst := fun c hc => wtF_step (c := c) (m := mostF k) (k := k) (x := geti ans v) (h := hc)
  rcases (without_cnt (p := p) (f := f) h).2 v with e | ⟨e, ec⟩
  · rw [e] at b1 ⊢
    exact ⟨fun _ => rfl, up _ b1.1, up _ b1.1⟩
  · refine ⟨fun hne => absurd e hne, ?_⟩
    rcases minM_step (most := mostF k) ec with e1 | e1
    · rw [e1] at b1 ⊢
      exact ⟨up _ b1.1, up _ b1.1⟩
    · have hc2 := ok2.c0
      have s := hst _ ok1 (by omega) ha hb
      rw [show minM (cntL (fieldL rs f) v) (mostF k) - 1 = minM (cntL (fieldL (rs.filter (keepP p)) f) v) (mostF k) by omega] at s
      have u1 := up _ b1.1
      have u2 := up _ b2.1
      rcases s with s | s
      · exact ⟨by omega, by omega⟩
      · exact ⟨by omega, by omega⟩
theorem shl_fit {a k : Int} (h0 : 1 ≤ a) (h1 : a ≤ 274877906944) (hk : k ≤ 12) : I64 (a * p2 k) := by
  have hk1 := p2_pos k
  have hk2 : p2 k ≤ p2 12 := p2_mono hk
  have e : p2 12 = 4096 := by decide
  rw [e] at hk2
  have h2 := Int.mul_le_mul h1 hk2 (by omega) (by omega)
  have h3 := Int.mul_nonneg (show 0 ≤ a by omega) (show 0 ≤ p2 k by omega)
  omega
end Go.Proofs.Ytohdcmkooedkcaa.A
