/- Lists of fractions and of bools in memory; slices.IndexFunc, ContainsFunc, Clone; dioramaref01.Take. -/
import Derived.Test.YtpblnfldhicfgaaB6
namespace Go.Proofs.Ytpblnfldhicfgaa.A
open Go Go.RowKit
set_option linter.unusedVariables false
set_option linter.unusedSimpArgs false
set_option maxRecDepth 4000

/-! ### Rows -/
theorem weakNil (H : Hp) (e : TypeId) (sz : Nat) : Weak H ⟨H.M, .row (.slice none 0 0) e sz [] :: H.L⟩ := by
  intro w0 F w hr
  refine ⟨hr.below, hr.M, ?_, ?_, ?_⟩
  · intro a ha
    rcases List.mem_cons.1 ha with rfl | ha
    · exact .inl ⟨rfl, rfl⟩
    · exact hr.holds a ha
  · intro a ha g hg
    rcases List.mem_cons.1 ha with rfl | ha
    · simp [Atom.foot] at hg
    · exact hr.low a ha g hg
  · refine List.pairwise_cons.2 ⟨fun b _ g hg => ?_, hr.apart⟩
    simp [Atom.foot] at hg
theorem readsRow {H : Hp} {v : Value} {e : TypeId} {sz : Nat} {xs : List Value} (hm : Atom.row v e sz xs ∈ H.L) (hv : RowVal v sz xs) : Reads H v sz xs := by
  rcases hv with ⟨rfl, rfl⟩ | ⟨g, o, n, c, rfl, h1, h2, h3⟩
  · exact ⟨none, 0, 0, rfl, Nat.le_refl _, by simp, fun h => absurd h (by omega)⟩
  · exact ⟨_, n, c, rfl, h2, h1, fun _ => ⟨g, o, rfl, fun j v hj => .inr ⟨_, hm, rfl, by simp, by rw [Nat.add_sub_cancel_left]; exact hj⟩⟩⟩

/-! ### Fractions -/
def frs (l : List Fr) : List Value := l.flatMap Fr.cs
theorem frs_length (l : List Fr) : (frs l).length = l.length * 2 := by
  induction l with
  | nil => rfl
  | cons a l ih => simp only [frs, List.flatMap_cons, List.length_append] at *; rw [ih]; simp [Fr.cs]; omega
theorem frs_append (l m : List Fr) : frs (l ++ m) = frs l ++ frs m := by simp [frs]
theorem frs_one (l : List Fr) : ∀ u ∈ frs l, u.oneCell' = true := by
  intro u hu
  simp only [frs, List.mem_flatMap, Fr.cs] at hu
  obtain ⟨a, _, h⟩ := hu
  simp at h
  rcases h with rfl | rfl <;> rfl
def getf (l : List Fr) (i : Int) : Fr := l.getD i.toNat ⟨0, 0⟩
theorem getf_mem {l : List Fr} {i : Int} (h0 : 0 ≤ i) (h1 : i < l.length) : getf l i ∈ l := by
  have : i.toNat < l.length := by omega
  simp [getf, List.getD_eq_getElem?_getD, List.getElem?_eq_getElem this]
theorem frs_cells {l : List Fr} {k : Nat} (hk : k < l.length) : (frs l)[k * 2]? = some (.int .i64 (getf l k).P) ∧ (frs l)[k * 2 + 1]? = some (.int .i64 (getf l k).Q) := by
  induction l generalizing k with
  | nil => simp at hk
  | cons a l ih =>
    cases k with
    | zero => simp [frs, Fr.cs, getf]
    | succ k =>
      have := ih (k := k) (by simpa using hk)
      have e1 : (k + 1) * 2 = k * 2 + 2 := by omega
      rw [e1]
      simp only [frs, List.flatMap_cons, Fr.cs, List.cons_append, List.nil_append, getf] at *
      simpa [Nat.add_assoc] using this
/-- A slice of fractions. -/
structure FrsAt (H : Hp) (v : Value) (l : List Fr) : Prop where
  reads : Reads H v 2 (frs l)
  fit : ∀ x ∈ l, x.I
  len : l.length ≤ 1000
theorem FrsAt.open {H : Hp} {v : Value} {l : List Fr} (h : FrsAt H v l) : ∃ p c, v = .slice p l.length c ∧ l.length ≤ c ∧
    ∀ i : Int, 0 ≤ i → i < l.length → ∃ g o, p = some ⟨g, o, none⟩ ∧ CellsAt H g (o + i.toNat * 2) (getf l i).cs := by
  obtain ⟨p, n, c, rfl, hnc, hl, hc⟩ := h.reads
  rw [frs_length] at hl
  have hn : n = l.length := by omega
  subst hn
  refine ⟨p, c, rfl, hnc, fun i h0 h1 => ?_⟩
  obtain ⟨g, o, rfl, hcells⟩ := hc (by omega)
  refine ⟨g, o, rfl, ?_⟩
  obtain ⟨k, rfl⟩ : ∃ k : Nat, i = k := ⟨i.toNat, by omega⟩
  have hk : k < l.length := by omega
  have := frs_cells hk
  intro j v hj
  rw [Int.toNat_natCast, Nat.add_assoc]
  refine hcells (k * 2 + j) v ?_
  match j, hj with
  | 0, hj => simp [Fr.cs] at hj; rw [← hj]; exact this.1
  | 1, hj => simp [Fr.cs] at hj; rw [← hj]; exact this.2
  | j + 2, hj => simp [Fr.cs] at hj
theorem FrsAt.mono {H H' : Hp} {v : Value} {l : List Fr} (h : FrsAt H v l) (hl : HLe H H') : FrsAt H' v l := ⟨h.reads.mono hl, h.fit, h.len⟩
theorem FrsAt.get {H : Hp} {v : Value} {l : List Fr} (h : FrsAt H v l) {i : Int} (h0 : 0 ≤ i) (h1 : i < l.length) : (getf l i).I := h.fit _ (getf_mem h0 h1)

/-! ### Costs -/
def okC (a : Fr) : Prop := okF a ∧ 0 ≤ a.P
instance (a : Fr) : Decidable (okC a) := inferInstanceAs (Decidable (_ ∧ _))
theorem c_isCost (a : Fr) (ha : a.I) (H : Hp) (R : Ending → Hp → Prop) (hR : R (.returned (.bool (decide (okC a)))) H) : ACalls Try.prog 33 [a.v] H R := by
  refine acalls_code hT Try.func33 rfl rfl ?_
  conv => whnf
  intro g
  conv => whnf
  refine ldA 0 rfl rfl ?_
  conv => whnf
  by_cases h : okF a
  · refine c_VT h _ _ ?_
    conv => whnf
    refine ldS 0 rfl rfl ?_
    conv => whnf
    refine ⟨rfl, ?_⟩
    conv => whnf
    exact fin (weakK 1 rfl) (okV hR (by simp [okC, h]))
  · refine c_VN ha h _ _ ?_
    conv => whnf
    refine ⟨rfl, ?_⟩
    conv => whnf
    exact fin (weakK 1 rfl) (okV hR (by simp [okC, h]))
theorem c_IsCost (a : Fr) (ha : a.I) (H : Hp) (R : Ending → Hp → Prop) (hR : R (.returned (.bool (decide (okC a)))) H) : ACalls Try.prog 39 [a.v] H R := by
  refine acalls_code hT Try.func39 rfl rfl ?_
  conv => whnf
  intro g
  conv => whnf
  refine ldA 0 rfl rfl ?_
  conv => whnf
  by_cases h : okF a
  · refine c_ValidT h _ _ ?_
    conv => whnf
    refine ldS 0 rfl rfl ?_
    conv => whnf
    refine ⟨rfl, ?_⟩
    conv => whnf
    exact fin (weakK 1 rfl) (okV hR (by simp [okC, h]))
  · refine c_ValidN ha h _ _ ?_
    conv => whnf
    refine ⟨rfl, ?_⟩
    conv => whnf
    exact fin (weakK 1 rfl) (okV hR (by simp [okC, h]))
theorem c_New1 (a : Fr) (ha : a.I) (H : Hp) (R : Ending → Hp → Prop) (hR : R (.returned (.bool (!decide (okC a)))) H) : ACalls Try.prog 32 [a.v] H R := by
  refine acalls_code hT Try.func32 rfl rfl ?_
  conv => whnf
  intro g
  conv => whnf
  refine ldA 0 rfl rfl ?_
  conv => whnf
  refine c_isCost a ha _ _ ?_
  conv => whnf
  refine ⟨rfl, ?_⟩
  conv => whnf
  exact fin (weakK 1 rfl) hR
theorem c_New2 (x : Int) (g : Nat) (p : Option Addr) (n c : Nat) (H : Hp) (hc : H.cell g 0 (.slice p n c)) (R : Ending → Hp → Prop) (hR : R (.returned (.bool (decide (x < 0 ∨ x ≥ n)))) H) :
    ACalls Try.prog 35 [.int .i64 x, .pointer (some ⟨g, 0, none⟩)] H R := by
  refine acalls_code hT Try.func35 rfl rfl ?_
  conv => whnf
  refine ifC_dec (fun h => ?_) (fun h => ?_)
  · conv => whnf
    refine ⟨rfl, ?_⟩
    conv => whnf
    exact fin (Weak.refl _) (okV hR (by simp [h]))
  · conv => whnf
    refine ⟨_, hc, ?_⟩
    conv => whnf
    refine ⟨rfl, ?_⟩
    conv => whnf
    exact fin (Weak.refl _) (okV hR (by simp [h]))

/-! ### slices -/
theorem c_IndexFuncI (v : Value) (l : List Int) (H : Hp) (hv : IntsAt H v l) (id : Nat) (cap : Array Value) (P : Int → Bool)
    (hP : ∀ x ∈ l, ∀ R : Ending → Hp → Prop, R (.returned (.bool (P x))) H → ACalls Try.prog id ([.int .i64 x] ++ cap.toList) H R) (R : Ending → Hp → Prop)
    (hR : ∀ r, ((0 : Int) ≤ r ↔ l.any P = true) → R (.returned (.int .i64 r)) H) : ACalls Try.prog 55 [v, .func (.func id) #[] cap] H R := by
  obtain ⟨p, c, rfl, hlc, hc⟩ := hv.open
  have hb := hv.len
  refine acalls_code hT Try.func55 rfl rfl ?_
  conv => whnf
  refine awp_loopL hT 19 [0, 1, 7, 8] (fun n vs H' => ∃ k : Nat, vs = [.slice p l.length c, .func (.func id) #[] cap, .int .i64 l.length, .int .i64 k] ∧ n + k = l.length ∧ (l.take k).any P = false ∧ H' = H) l.length rfl rfl (Weak.refl _) ⟨0, rfl, rfl, rfl, rfl⟩ ?_
  rintro n u vs H' ⟨k, rfl, hk, ht, rfl⟩
  conv => whnf
  refine ifC_dec (fun h1 => ?_) (fun h1 => ?_)
  · conv => whnf
    obtain ⟨g, o, rfl, hcell⟩ := hc k (by omega) (by omega)
    refine ⟨g, o, rfl, by omega, ?_⟩
    conv => whnf
    refine ⟨_, hcell, ?_⟩
    conv => whnf
    have hkl : k < l.length := by omega
    have e1 : geti l k = l[k] := by simp [geti, List.getD_eq_getElem?_getD, hkl]
    refine hP _ (geti_mem (by omega) (by omega)) _ ?_
    conv => whnf
    refine ifC_cases (fun h2 => ?_) (fun h2 => ?_)
    · conv => whnf
      refine ⟨rfl, ?_⟩
      conv => whnf
      refine fin (Weak.refl _) (hR _ ⟨fun _ => ?_, fun _ => by omega⟩)
      exact List.any_eq_true.2 ⟨_, geti_mem (i := (k : Int)) (by omega) (by omega), h2⟩
    · conv => whnf
      repeat (refine ⟨_, wi (by omega), ?_⟩; conv => whnf)
      refine ⟨rfl, rfl, n - 1, _, by omega, Weak.refl _, k + 1, rfl, by omega, ?_, rfl⟩
      rw [List.take_succ_eq_append_getElem hkl, List.any_append, ht, ← e1]
      simpa using h2
  · conv => whnf
    refine ⟨rfl, ?_⟩
    conv => whnf
    refine fin (Weak.refl _) (hR _ ⟨fun h => by omega, fun h => ?_⟩)
    have : k = l.length := by omega
    subst this
    rw [List.take_length, h] at ht
    cases ht
theorem c_ContainsFuncI (v : Value) (l : List Int) (H : Hp) (hv : IntsAt H v l) (id : Nat) (cap : Array Value) (P : Int → Bool)
    (hP : ∀ x ∈ l, ∀ R : Ending → Hp → Prop, R (.returned (.bool (P x))) H → ACalls Try.prog id ([.int .i64 x] ++ cap.toList) H R) (R : Ending → Hp → Prop)
    (hR : R (.returned (.bool (l.any P))) H) : ACalls Try.prog 34 [v, .func (.func id) #[] cap] H R := by
  refine acalls_code hT Try.func34 rfl rfl ?_
  conv => whnf
  refine c_IndexFuncI v l H hv id cap P hP _ ?_
  intro r hr
  conv => whnf
  refine ⟨rfl, ?_⟩
  conv => whnf
  refine fin (Weak.refl _) ?_
  rw [show decide (0 ≤ r) = l.any P by cases h : l.any P <;> simp [h] at hr ⊢ <;> omega]
  exact hR
theorem c_IndexFuncF (v : Value) (l : List Fr) (H : Hp) (hv : FrsAt H v l) (id : Nat) (cap : Array Value) (P : Fr → Bool)
    (hP : ∀ x ∈ l, ∀ R : Ending → Hp → Prop, R (.returned (.bool (P x))) H → ACalls Try.prog id ([x.v] ++ cap.toList) H R) (R : Ending → Hp → Prop)
    (hR : ∀ r, ((0 : Int) ≤ r ↔ l.any P = true) → R (.returned (.int .i64 r)) H) : ACalls Try.prog 56 [v, .func (.func id) #[] cap] H R := by
  obtain ⟨p, c, rfl, hlc, hc⟩ := hv.open
  have hb := hv.len
  refine acalls_code hT Try.func56 rfl rfl ?_
  conv => whnf
  refine awp_loopL hT 19 [0, 1, 7, 8] (fun n vs H' => ∃ k : Nat, vs = [.slice p l.length c, .func (.func id) #[] cap, .int .i64 l.length, .int .i64 k] ∧ n + k = l.length ∧ (l.take k).any P = false ∧ H' = H) l.length rfl rfl (Weak.refl _) ⟨0, rfl, rfl, rfl, rfl⟩ ?_
  rintro n u vs H' ⟨k, rfl, hk, ht, rfl⟩
  conv => whnf
  refine ifC_dec (fun h1 => ?_) (fun h1 => ?_)
  · conv => whnf
    obtain ⟨g, o, rfl, hcell⟩ := hc k (by omega) (by omega)
    refine ⟨g, o, rfl, by omega, ?_⟩
    conv => whnf
    refine ⟨_, rfl, hcell, ?_⟩
    conv => whnf
    have hkl : k < l.length := by omega
    have e1 : getf l k = l[k] := by simp [getf, List.getD_eq_getElem?_getD, hkl]
    refine hP _ (getf_mem (by omega) (by omega)) _ ?_
    conv => whnf
    refine ifC_cases (fun h2 => ?_) (fun h2 => ?_)
    · conv => whnf
      refine ⟨rfl, ?_⟩
      conv => whnf
      refine fin (Weak.refl _) (hR _ ⟨fun _ => ?_, fun _ => by omega⟩)
      exact List.any_eq_true.2 ⟨_, getf_mem (i := (k : Int)) (by omega) (by omega), h2⟩
    · conv => whnf
      repeat (refine ⟨_, wi (by omega), ?_⟩; conv => whnf)
      refine ⟨rfl, rfl, n - 1, _, by omega, Weak.refl _, k + 1, rfl, by omega, ?_, rfl⟩
      rw [List.take_succ_eq_append_getElem hkl, List.any_append, ht, ← e1]
      simpa using h2
  · conv => whnf
    refine ⟨rfl, ?_⟩
    conv => whnf
    refine fin (Weak.refl _) (hR _ ⟨fun h => by omega, fun h => ?_⟩)
    have : k = l.length := by omega
    subst this
    rw [List.take_length, h] at ht
    cases ht
theorem c_ContainsFuncF (v : Value) (l : List Fr) (H : Hp) (hv : FrsAt H v l) (id : Nat) (cap : Array Value) (P : Fr → Bool)
    (hP : ∀ x ∈ l, ∀ R : Ending → Hp → Prop, R (.returned (.bool (P x))) H → ACalls Try.prog id ([x.v] ++ cap.toList) H R) (R : Ending → Hp → Prop)
    (hR : R (.returned (.bool (l.any P))) H) : ACalls Try.prog 36 [v, .func (.func id) #[] cap] H R := by
  refine acalls_code hT Try.func36 rfl rfl ?_
  conv => whnf
  refine c_IndexFuncF v l H hv id cap P hP _ ?_
  intro r hr
  conv => whnf
  refine ⟨rfl, ?_⟩
  conv => whnf
  refine fin (Weak.refl _) ?_
  rw [show decide (0 ≤ r) = l.any P by cases h : l.any P <;> simp [h] at hr ⊢ <;> omega]
  exact hR
end Go.Proofs.Ytpblnfldhicfgaa.A
