/- budget: must, known, what Ask adds. -/
import Derived.Test.YtpblnfldhicfgaaB16
namespace Go.Proofs.Ytpblnfldhicfgaa.A
open Go Go.RowKit
set_option linter.unusedVariables false
set_option linter.unusedSimpArgs false
set_option maxRecDepth 20000

abbrev errP (e : Int) : Ending := .panicked [{ v := errV e, recovered := false }]
theorem c_must (a : Fr) (e : Int) (H : Hp) (R : Ending → Hp → Prop) (h0 : e = 0 → R (.returned a.v) H) (h1 : e ≠ 0 → R (errP e) H) : ACalls Try.prog 50 [a.v, .int .i64 e] H R := by
  refine acalls_code hT Try.func50 rfl rfl ?_
  conv => whnf
  intro g
  conv => whnf
  intro r
  conv => whnf
  refine ifC_dec (fun h => ?_) (fun h => ?_)
  · conv => whnf
    exact ⟨rfl, fin (weakK 2 rfl) (h1 h)⟩
  · conv => whnf
    refine ldA 1 rfl rfl ?_
    conv => whnf
    refine stC 0 rfl rfl (by first | (refine ⟨rfl, ?_⟩; repeat' (first | exact trivial | refine ⟨rfl, ?_⟩)) | simp [oneCells, Value.oneCell', setN]) ?_
    conv => whnf
    refine ⟨rfl, ?_⟩
    conv => whnf
    refine ldA 0 rfl rfl ?_
    conv => whnf
    exact fin (weakK 2 rfl) (h0 (Classical.not_not.1 h))

theorem c_Index (v : Value) (l : List Int) (x : Int) (H : Hp) (hv : IntsAt H v l) (R : Ending → Hp → Prop) (hR : ∀ r, ((0 : Int) ≤ r ↔ x ∈ l) → R (.returned (.int .i64 r)) H) : ACalls Try.prog 71 [v, .int .i64 x] H R := by
  obtain ⟨p, c, rfl, hlc, hc⟩ := hv.open
  have hb := hv.len
  refine acalls_code hT Try.func71 rfl rfl ?_
  conv => whnf
  refine awp_loopL hT 19 [0, 1, 7, 8] (fun n vs H' => ∃ k : Nat, vs = [.slice p l.length c, .int .i64 x, .int .i64 l.length, .int .i64 k] ∧ n + k = l.length ∧ (l.take k).any (fun y => decide (x = y)) = false ∧ H' = H) l.length rfl rfl (Weak.refl _) ⟨0, rfl, rfl, rfl, rfl⟩ ?_
  rintro n u vs H' ⟨k, rfl, hk, ht, rfl⟩
  conv => whnf
  refine ifC_dec (fun h1 => ?_) (fun h1 => ?_)
  · have hkl : k < l.length := by omega
    conv => whnf
    obtain ⟨g, o, rfl, hcell⟩ := hc k (by omega) (by omega)
    refine ⟨g, o, rfl, by omega, ?_⟩
    conv => whnf
    refine ⟨_, hcell, ?_⟩
    conv => whnf
    refine ifC_dec (fun h2 => ?_) (fun h2 => ?_)
    · conv => whnf
      refine ⟨rfl, ?_⟩
      conv => whnf
      refine fin (Weak.refl _) (hR _ ⟨fun _ => ?_, fun _ => by omega⟩)
      rw [h2]; exact geti_mem (by omega) (by omega)
    · conv => whnf
      repeat (refine ⟨_, wi (by omega), ?_⟩; conv => whnf)
      refine ⟨rfl, rfl, n - 1, _, by omega, Weak.refl _, k + 1, rfl, by omega, any_step hkl ht ?_, rfl⟩
      rw [← geti_at hkl]; exact decide_eq_false h2
  · conv => whnf
    refine ⟨rfl, ?_⟩
    conv => whnf
    refine fin (Weak.refl _) (hR _ ⟨fun h => by omega, fun h => ?_⟩)
    have : k = l.length := by omega
    subst this
    rw [List.take_length] at ht
    have := List.any_eq_false.1 ht x h
    simp at this
theorem c_Contains (v : Value) (l : List Int) (x : Int) (H : Hp) (hv : IntsAt H v l) (R : Ending → Hp → Prop) (hR : R (.returned (.bool (decide (x ∈ l)))) H) : ACalls Try.prog 65 [v, .int .i64 x] H R := by
  refine acalls_code hT Try.func65 rfl rfl ?_
  conv => whnf
  refine c_Index v l x H hv _ ?_
  intro r hr
  conv => whnf
  refine ⟨rfl, ?_⟩
  conv => whnf
  exact fin (Weak.refl _) (okV hR (by simpa using hr))

def kn1 (B : Bk) (before : List Int) (p : Int) : Int := if p < 0 ∨ p ≥ B.lim.length then 6 else if p ∈ before then 7 else if getb B.rem p = true then 24 else 0
theorem knE_step (B : Bk) (b : List Int) (p : Int) (r : List Int) : knE B b (p :: r) = if kn1 B b p = 0 then knE B (b ++ [p]) r else kn1 B b p := by
  rw [knE_cons]; unfold kn1
  split
  · rfl
  · split
    · rfl
    · split <;> rfl
theorem c_known (g : Nat) (a b c d : Value) (B : Bk) (x : Int) (v : Value) (l : List Int) (H : Hp) (hB : okB B) (hb : BkAt H g a b c d B) (hv : IntsAt H v l) (R : Ending → Hp → Prop)
    (h0 : kn1 B l x = 0 → R (.returned (.tuple #[])) H) (h1 : kn1 B l x ≠ 0 → R (errP (kn1 B l x)) H) : ACalls Try.prog 48 [ptr g, .int .i64 x, v] H R := by
  obtain ⟨pa, ca, rfl, hca⟩ := accsAt hB.l1 hb.a
  obtain ⟨pd, cd, rfl, hcd⟩ := boolsAt hb.d
  have hl3 := hB.l3
  have out : ∀ e, e ≠ 0 → kn1 B l x = e → R (errP e) H := fun e he h => by rw [← h]; exact h1 (by omega)
  unfold kn1 at out h0
  refine acalls_code hT Try.func48 rfl rfl ?_
  conv => whnf
  refine ifC_dec (fun c1 => ?_) (fun c1 => ?_)
  · conv => whnf
    exact ⟨rfl, fin (Weak.refl _) (out 6 (by omega) (if_pos (by omega)))⟩
  · conv => whnf
    refine ⟨_, hb.h 0 _ rfl, ?_⟩
    conv => whnf
    refine ifC_dec (fun c2 => ?_) (fun c2 => ?_)
    · conv => whnf
      exact ⟨rfl, fin (Weak.refl _) (out 6 (by omega) (if_pos (by omega)))⟩
    · rw [if_neg (by omega)] at out h0
      conv => whnf
      refine c_Contains v l x H hv _ ?_
      conv => whnf
      refine ifC_dec (fun c3 => ?_) (fun c3 => ?_)
      · conv => whnf
        exact ⟨rfl, fin (Weak.refl _) (out 7 (by omega) (if_pos c3))⟩
      · rw [if_neg c3] at out h0
        conv => whnf
        refine ⟨_, hb.h 3 _ rfl, ?_⟩
        conv => whnf
        obtain ⟨gd, od, rfl, hcell⟩ := hcd x (by omega) (by omega)
        refine ⟨gd, od, rfl, by omega, ?_⟩
        conv => whnf
        refine ⟨_, hcell, ?_⟩
        conv => whnf
        refine ifC_cases (fun c4 => ?_) (fun c4 => ?_)
        · conv => whnf
          exact ⟨rfl, fin (Weak.refl _) (out 24 (by omega) (if_pos c4))⟩
        · conv => whnf
          refine ⟨rfl, ?_⟩
          conv => whnf
          exact fin (Weak.refl _) (h0 (if_neg (by simp [c4])))

theorem accs_set {l m : List Fr} (h : m.length = l.length) {k : Nat} (hk : k < l.length) (a : Fr) : setN (accs l m) (k * 4 + 2) a.cs = accs l (m.set k a) := by
  induction l generalizing m k with
  | nil => simp at hk
  | cons b l ih =>
    cases m with
    | nil => simp at h
    | cons c m =>
      cases k with
      | zero => simp [accs, Fr.cs, setN]
      | succ k =>
        have := ih (m := m) (k := k) (by simpa using h) (by simpa using hk)
        simp only [accs, Fr.cs, setN, List.zip_cons_cons, List.flatMap_cons, List.set_cons_succ, List.cons_append, List.nil_append] at *
        rw [show (k + 1) * 4 + 1 = k * 4 + 2 + 1 + 1 + 1 by omega, show (k + 1) * 4 = k * 4 + 2 + 1 + 1 by omega]
        simp only [List.set_cons_succ]
        rw [this]
theorem c_Ask1 (gs ga o n c : Nat) (lim used : List Fr) (k : Nat) (by' : Fr) (ov : Bool) (M : Nat → Option Obj) (T : List Atom) (hl : used.length = lim.length) (hk : k < lim.length) (hn : lim.length ≤ 1000) (hok : okF (getf used k)) (hlim : okF (getf lim k)) (hby : by'.I)
    (hV : RowVal (.slice (some ⟨ga, o, none⟩) n c) 4 (accs lim used)) (R : Ending → Hp → Prop)
    (h1 : (addF (getf used k) by').2 ≠ 0 → R (errP (addF (getf used k) by').2) ⟨M, .cells gs 4 [.bool ov] :: .row (.slice (some ⟨ga, o, none⟩) n c) 84 4 (accs lim used) :: T⟩)
    (h0 : (addF (getf used k) by').2 = 0 → R (.returned (.tuple #[])) ⟨M, .cells gs 4 [.bool (ov || decide (0 < cmpF (addF (getf used k) by').1 (getf lim k)))] :: .row (.slice (some ⟨ga, o, none⟩) n c) 84 4 (accs lim (used.set k (addF (getf used k) by').1)) :: T⟩) :
    ACalls Try.prog 49 [.pointer (some ⟨ga, o + k * 4, none⟩), by'.v, .pointer (some ⟨gs, 0, none⟩)] ⟨M, .cells gs 4 [.bool ov] :: .row (.slice (some ⟨ga, o, none⟩) n c) 84 4 (accs lim used) :: T⟩ R := by
  refine acalls_code hT Try.func49 rfl rfl ?_
  conv => whnf
  intro gb
  conv => whnf
  have hr := fun (L : List Atom) (hm : Atom.row (.slice (some ⟨ga, o, none⟩) n c) 84 4 (accs lim used) ∈ L) => accsAt (H := ⟨M, L⟩) hl (readsRow hm hV)
  have cellOf : ∀ L, Atom.row (.slice (some ⟨ga, o, none⟩) n c) 84 4 (accs lim used) ∈ L → CellsAt ⟨M, L⟩ ga (o + k * 4) (getf lim k).cs ∧ CellsAt ⟨M, L⟩ ga (o + k * 4 + 2) (getf used k).cs := fun L hm => by
    obtain ⟨p, c', e, h⟩ := hr L hm
    obtain ⟨g2, o2, e2, h3⟩ := h k (by omega) (by omega)
    cases e
    cases e2
    simpa using h3
  refine awp_drawE hT hM 10 (List.range 10) [9] [] (by kernel_rfl) M (frA gb by' :: .cells gs 4 [.bool ov] :: .row (.slice (some ⟨ga, o, none⟩) n c) 84 4 (accs lim used) :: T) [] (by rw [List.append_nil]; exact Weak.refl _)
    (fun ch H' => (addF (getf used k) by').2 ≠ 0 ∧ ch = [{ v := errV (addF (getf used k) by').2, recovered := false }] ∧ Weak H' ⟨M, .cells gs 4 [.bool ov] :: .row (.slice (some ⟨ga, o, none⟩) n c) 84 4 (accs lim used) :: T⟩)
    (fun fr' _ ch H' ⟨he, hch, hw⟩ => by
      subst hch
      exact ⟨rfl, _, hw, h1 he⟩) ?_
  conv => whnf
  refine ⟨_, rfl, (cellOf _ (by simp)).2, ?_⟩
  conv => whnf
  refine ldA 0 rfl rfl ?_
  conv => whnf
  refine c_Add _ _ hok.I hby _ _ ?_
  refine ⟨_, _, Weak.refl _, fun _ _ h => h, ?_⟩
  conv => whnf
  have hsum := addF_okF (getf used k) by'
  generalize hadd : addF (getf used k) by' = ss at *
  obtain ⟨sum, se⟩ := ss
  simp only at *
  refine c_must sum se _ _ (fun he => ?_) (fun he => ?_)
  · refine ⟨_, _, Weak.refl _, fun _ _ h => h, ?_⟩
    conv => whnf
    refine ⟨_, by rw [List.append_nil]; exact Weak.refl _, ?_⟩
    have h0 := h0 he
    conv => whnf
    refine stW 2 rfl (k * 4 + 2) (by omega) (by rw [accs_length hl]; simp [Fr.cs]; omega) ⟨rfl, rfl, trivial⟩ (accs_set hl hk sum) ?_
    conv => whnf
    have hl' : (used.set k sum).length = lim.length := by rw [List.length_set]; exact hl
    have hV' := hV.len (ys := accs lim (used.set k sum)) (by rw [accs_length hl, accs_length hl'])
    have cell2 : ∀ L, Atom.row (.slice (some ⟨ga, o, none⟩) n c) 84 4 (accs lim (used.set k sum)) ∈ L → CellsAt ⟨M, L⟩ ga (o + k * 4) (getf lim k).cs ∧ CellsAt ⟨M, L⟩ ga (o + k * 4 + 2) sum.cs := fun L hm => by
      obtain ⟨p, c', e, h⟩ := accsAt (H := ⟨M, L⟩) hl' (readsRow hm hV')
      obtain ⟨g2, o2, e2, h3⟩ := h k (by omega) (by omega)
      cases e
      cases e2
      have : getf (used.set k sum) k = sum := by simp [getf, List.getD_eq_getElem?_getD, List.getElem?_set_self (show k < used.length by omega)]
      rw [this] at h3
      simpa using h3
    refine awp_drawQ hT hM 13 (by kernel_rfl) ?_
    conv => whnf
    refine ldS 1 rfl rfl ?_
    conv => whnf
    refine ifC_cases (fun c6 => ?_) (fun c6 => ?_)
    · subst c6
      rw [Bool.true_or] at h0
      conv => whnf
      refine stC 1 rfl rfl (by first | (refine ⟨rfl, ?_⟩; repeat' (first | exact trivial | refine ⟨rfl, ?_⟩)) | simp [oneCells, Value.oneCell', setN]) ?_
      conv => whnf
      refine ⟨rfl, ?_⟩
      conv => whnf
      exact fin (weakK 1 rfl) h0
    · subst c6
      rw [Bool.false_or] at h0
      conv => whnf
      refine ⟨_, rfl, (cell2 _ (by simp)).2, ?_⟩
      conv => whnf
      refine ⟨_, rfl, (cell2 _ (by simp)).1, ?_⟩
      conv => whnf
      refine c_Compare sum _ hsum.I hlim.I _ _ ⟨Weak.refl _, ?_⟩
      conv => whnf
      refine stC 1 rfl rfl (by first | (refine ⟨rfl, ?_⟩; repeat' (first | exact trivial | refine ⟨rfl, ?_⟩)) | simp [oneCells, Value.oneCell', setN]) ?_
      conv => whnf
      refine ⟨rfl, ?_⟩
      conv => whnf
      exact fin (weakK 1 rfl) h0
  · conv => whnf
    exact ⟨he, rfl, by rw [List.append_nil]; exact weakK 1 rfl⟩
end Go.Proofs.Ytpblnfldhicfgaa.A
