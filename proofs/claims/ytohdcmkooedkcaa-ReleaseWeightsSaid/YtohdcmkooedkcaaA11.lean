/- The theorem on statements whose order Go leaves open. -/
import Derived.Test.YtohdcmkooedkcaaA10
namespace Go.Proofs.Ytohdcmkooedkcaa.A
open Go Go.RowKit
set_option linter.unusedVariables false
set_option linter.unusedSimpArgs false

section
variable {lk : List Nat} {P : Program} {T : Tab} {ops : Array Oper} {M0 M : Nat → Option Obj} {S L : List Atom} {fr : List Value} {o i : Oper} {K K' : KD}

theorem Det_setD {d : Option Tmp} {x v : Value} (h : ∀ t, d = some t → t ∉ o.looksAt ops) (hd : Det lk P T ops M0 S o (setD fr d x) v) : Det lk P T ops M0 S o fr v := by
  rcases hd with ⟨h1, h2⟩ | ⟨h1, h2, h3⟩
  · exact .inl ⟨by rw [← h1]; exact (wants_setD h).symm, h2⟩
  · exact .inr ⟨by rw [← h1]; exact (wants_setD h).symm, h2, opF_congr (operands_setD h) h3⟩
theorem Det_setD' {d : Option Tmp} {x v : Value} (h : ∀ t, d = some t → t ∉ o.looksAt ops) (hd : Det lk P T ops M0 S o fr v) : Det lk P T ops M0 S o (setD fr d x) v := by
  rcases hd with ⟨h1, h2⟩ | ⟨h1, h2, h3⟩
  · exact .inl ⟨by rw [← h1]; exact wants_setD h, h2⟩
  · exact .inr ⟨by rw [← h1]; exact wants_setD h, h2, opF_congr (fun y hy => (operands_setD h y hy).symm) h3⟩
theorem Det_fun (hT : Tab.okFrom P 0 T) (hr : ∃ w0 F w, RepF w0 F ⟨M0, S⟩ w) {v u : Value} (h : Det lk P T ops M0 S o fr v) (h' : Det lk P T ops M0 S o fr u) : v = u := by
  rcases h with ⟨h1, h2⟩ | ⟨h1, h2, h3⟩ <;> rcases h' with ⟨g1, g2⟩ | ⟨g1, g2, g3⟩
  · rw [h2, g2]
  · rw [h1] at g1; cases g1
  · rw [h1] at g1; cases g1
  · exact QV_fun hT (clsL_quiet h2) hr h3 g3
theorem Stp_mono (h : Stp lk P T ops M0 S o fr M L K) (hk : ∀ v M' L', MLe M M' → (Real S M L → Real S M' L') → K (setD fr o.dst v) M' L' → K' (setD fr o.dst v) M' L')
    (hk2 : ∀ v M' L', MLe M M' → Real S M' L' → K (setD fr o.dst v) M' L' → K' (setD fr o.dst v) M' L') : Stp lk P T ops M0 S o fr M L K' := by
  rcases h with ⟨v, h1, h2⟩ | ⟨h1, h2, ak, h3, h4⟩ | ⟨h1, h2, h3⟩
  · exact .inl ⟨v, h1, hk v M L (MLe.refl M) id h2⟩
  · exact .inr (.inl ⟨h1, h2, ak, h3, fun g hg => hk2 _ _ _ (MLe.refl M) hg (h4 g hg)⟩)
  · exact .inr (.inr ⟨h1, h2, h3.mono fun v H' ⟨M', L', a, b, c⟩ => ⟨M', L', a, b, fun hr => hk2 _ _ _ b hr (c hr)⟩⟩)

theorem swap (hT : Tab.okFrom P 0 T) (hap : o.apart ops i = true) (hok : okPair lk o i = true) (hK : ∀ fr M L L', L.Perm L' → K fr M L → K fr M L') (hr : Real S M L) (hM : MLe M0 M)
    (h : Stp lk P T ops M0 S o fr M L fun fr1 M1 L1 => Stp lk P T ops M0 S i fr1 M1 L1 K) : Stp lk P T ops M0 S i fr M L fun fr1 M1 L1 => Stp lk P T ops M0 S o fr1 M1 L1 K := by
  obtain ⟨a1, a2, a3⟩ := Oper.apart_spec hap
  have hrep := real_rep hr hM
  have comm : ∀ v u, setD (setD fr o.dst v) i.dst u = setD (setD fr i.dst u) o.dst v := fun v u => setD_comm a2
  have hli : ∀ t, o.dst = some t → t ∉ i.looksAt ops := a1
  have hlo : ∀ t, i.dst = some t → t ∉ o.looksAt ops := a3
  rcases h with ⟨v, hd, h⟩ | ⟨hw, hc, ak, hak, h⟩ | ⟨hw, hc, h⟩
  · -- o is settled
    have stp : ∀ u M' L', K (setD (setD fr o.dst v) i.dst u) M' L' → Stp lk P T ops M0 S o (setD fr i.dst u) M' L' K := fun u M' L' hk =>
      .inl ⟨v, Det_setD' hlo hd, by rw [← comm]; exact hk⟩
    rcases h with ⟨u, h1, h2⟩ | ⟨h1, h2, ak, h3, h4⟩ | ⟨h1, h2, h3⟩
    · exact .inl ⟨u, Det_setD hli h1, stp u _ _ h2⟩
    · exact .inr (.inl ⟨by rw [← h1]; exact (wants_setD hli).symm, h2, ak, AKof_congr (operands_setD hli) h3, fun g hg => stp _ _ _ (h4 g hg)⟩)
    · exact .inr (.inr ⟨by rw [← h1]; exact (wants_setD hli).symm, h2, (h3.congr (cls_call_sel h2) (operands_setD hli)).mono fun u H' ⟨M', L', a, b, c⟩ => ⟨M', L', a, b, fun hr => stp _ _ _ (c hr)⟩⟩)
  · -- o makes a piece
    obtain ⟨g0, hg0⟩ := real_alloc hr ak hak hT
    rcases h g0 hg0 with ⟨u, h1, _⟩ | ⟨h1, h2, ak2, h3, _⟩ | ⟨h1, h2, _⟩
    · have hdi : Det lk P T ops M0 S i fr u := Det_setD hli h1
      refine .inl ⟨u, hdi, .inr (.inl ⟨by rw [← hw]; exact wants_setD hlo, hc, ak, AKof_congr (fun y hy => (operands_setD hlo y hy).symm) hak, fun g hg => ?_⟩)⟩
      rw [← comm]
      rcases h g hg with ⟨u', h1', h2'⟩ | ⟨h1', h2', _⟩ | ⟨h1', h2', _⟩
      · obtain rfl := Det_fun hT hrep hdi (Det_setD hli h1'); exact h2'
      · rcases h1 with ⟨e, _⟩ | ⟨_, e, _⟩
        · rw [wants_setD hli] at h1' e; rw [e] at h1'; cases h1'
        · rw [e] at h2'; cases h2'
      · rcases h1 with ⟨e, _⟩ | ⟨_, e, _⟩
        · rw [wants_setD hli] at h1' e; rw [e] at h1'; cases h1'
        · rw [e] at h2'; cases h2'
    · have hak2 : AKof T fr i.op ak2 := AKof_congr (operands_setD hli) h3
      refine .inr (.inl ⟨by rw [← h1]; exact (wants_setD hli).symm, h2, ak2, hak2, fun g' hg' => .inr (.inl ⟨by rw [← hw]; exact wants_setD hlo, hc, ak, AKof_congr (fun y hy => (operands_setD hlo y hy).symm) hak, fun g hg => ?_⟩)⟩)
      rw [← comm]
      have hgr : Real S M (ak.atom g :: L) := by
        obtain ⟨w0, F, w, hrw⟩ := hg
        exact ⟨w0, F, w, (Weak.perm ((List.Perm.swap _ _ L).append_left S)).trans ((Weak.perm (List.perm_middle (l₁ := S) (l₂ := ak.atom g :: L) (a := ak2.atom g'))).trans (Weak.drop M _ _)) _ _ _ hrw⟩
      rcases h g hgr with ⟨u', h1', h2'⟩ | ⟨h1', h2', ak3, h3', h4'⟩ | ⟨h1', h2', _⟩
      · rcases h1' with ⟨e, _⟩ | ⟨_, e, _⟩
        · rw [wants_setD hli] at h1 e; rw [e] at h1; cases h1
        · rw [e] at h2; cases h2
      · obtain rfl := AKof_fun hak2 (AKof_congr (operands_setD hli) h3')
        refine hK _ _ _ _ (List.Perm.swap _ _ L) (h4' g' ?_)
        obtain ⟨w0, F, w, hrw⟩ := hg
        exact ⟨w0, F, w, Weak.perm ((List.Perm.swap _ _ L).append_left S) _ _ _ hrw⟩
      · rw [h2'] at h2; cases h2
    · simp only [okPair, hc, h2] at hok; cases hok
  · -- o calls
    obtain ⟨w02, F2, w2, hrw2⟩ := hr
    have hr : Real S M L := ⟨w02, F2, w2, hrw2⟩
    obtain ⟨v1, H1, w01, F1, w1, ⟨M1, L1, hw1, hm1, hk1⟩, hr1⟩ := h.fact hrw2
    have hreal1 : Real S M1 L1 := ⟨w01, F1, w1, hw1 _ _ _ hr1⟩
    have hk1 := hk1 hreal1
    have callAgain : ∀ (x : Value) (K2 : Value → Hp → Prop), (∀ v H', (∃ M' L', Weak H' ⟨M', S ++ L'⟩ ∧ MLe M M' ∧ (Real S M' L' → Stp lk P T ops M0 S i (setD fr o.dst v) M' L' K)) → K2 v H') →
        SemOp P o (setD fr i.dst x) ⟨M, S ++ L⟩ K2 := fun x K2 hk => (h.congr (cls_call_sel hc) (fun y hy => (operands_setD hlo y hy).symm)).mono hk
    rcases hk1 with ⟨u, h1, _⟩ | ⟨h1, h2, ak2, h3, _⟩ | ⟨h1, h2, _⟩
    · have hdi : Det lk P T ops M0 S i fr u := Det_setD hli h1
      refine .inl ⟨u, hdi, .inr (.inr ⟨by rw [← hw]; exact wants_setD hlo, hc, callAgain u _ fun v H' ⟨M', L', a, b, c⟩ => ⟨M', L', a, b, fun hre => ?_⟩⟩)⟩
      rw [← comm]
      rcases c hre with ⟨u', h1', h2'⟩ | ⟨h1', h2', _⟩ | ⟨h1', h2', _⟩
      · obtain rfl := Det_fun hT hrep hdi (Det_setD hli h1'); exact h2'
      · rcases h1 with ⟨e, _⟩ | ⟨_, e, _⟩
        · rw [wants_setD hli] at h1' e; rw [e] at h1'; cases h1'
        · rw [e] at h2'; cases h2'
      · rcases h1 with ⟨e, _⟩ | ⟨_, e, _⟩
        · rw [wants_setD hli] at h1' e; rw [e] at h1'; cases h1'
        · rw [e] at h2'; cases h2'
    · have hak2 : AKof T fr i.op ak2 := AKof_congr (operands_setD hli) h3
      refine .inr (.inl ⟨by rw [← h1]; exact (wants_setD hli).symm, h2, ak2, hak2, fun g hg => .inr (.inr ⟨by rw [← hw]; exact wants_setD hlo, hc, ?_⟩)⟩)
      have hfr := SemOp.frame (ak2.atom g) (callAgain (ak2.val g) (fun v H' => ∃ M' L', Weak H' ⟨M', S ++ L'⟩ ∧ MLe M M' ∧ (Real S M' L' → Stp lk P T ops M0 S i (setD fr o.dst v) M' L' K)) fun v H' h => h)
      refine (hfr.weak (Weak.perm (List.perm_middle (l₁ := S) (l₂ := L) (a := ak2.atom g)))).mono ?_
      rintro v H'' ⟨H', hwk, M', L', a, b, c⟩
      refine ⟨M', ak2.atom g :: L', hwk.trans ((Weak.consAny a).trans (Weak.perm (List.perm_middle (l₁ := S) (l₂ := L') (a := ak2.atom g)).symm)), b, fun hre => ?_⟩
      have hre' : Real S M' L' := by
        obtain ⟨w0, F, w, hrw⟩ := hre
        exact ⟨w0, F, w, ((Weak.perm (List.perm_middle (l₁ := S) (l₂ := L') (a := ak2.atom g))).trans (Weak.drop M' _ _)) _ _ _ hrw⟩
      rw [← comm]
      rcases c hre' with ⟨u', h1', h2'⟩ | ⟨h1', h2', ak3, h3', h4'⟩ | ⟨h1', h2', _⟩
      · rcases h1' with ⟨e, _⟩ | ⟨_, e, _⟩
        · rw [wants_setD hli] at h1 e; rw [e] at h1; cases h1
        · rw [e] at h2; cases h2
      · obtain rfl := AKof_fun hak2 (AKof_congr (operands_setD hli) h3')
        exact h4' g hre
      · rw [h2'] at h2; cases h2
    · simp only [okPair, hc, h2] at hok; cases hok

/-! ### Many operations -/
def Can (lk : List Nat) (P : Program) (T : Tab) (ops : Array Oper) (M0 : Nat → Option Obj) (S : List Atom) (rest : KD) : List Nat → KD
  | [], fr, M, L => rest fr M L
  | i :: is, fr, M, L =>
    match ops[i]? with
    | some o => Stp lk P T ops M0 S o fr M L (Can lk P T ops M0 S rest is)
    | none => Can lk P T ops M0 S rest is fr M L

theorem Real.perm {L' : List Atom} (hp : L.Perm L') (h : Real S M L) : Real S M L' := by
  obtain ⟨w0, F, w, hr⟩ := h
  exact ⟨w0, F, w, Weak.perm (hp.append_left S) _ _ _ hr⟩
theorem Stp_perm {L' : List Atom} (hK : ∀ fr M L L', L.Perm L' → K fr M L → K fr M L') (hp : L.Perm L') (h : Stp lk P T ops M0 S o fr M L K) : Stp lk P T ops M0 S o fr M L' K := by
  rcases h with ⟨v, h1, h2⟩ | ⟨h1, h2, ak, h3, h4⟩ | ⟨h1, h2, h3⟩
  · exact .inl ⟨v, h1, hK _ _ _ _ hp h2⟩
  · exact .inr (.inl ⟨h1, h2, ak, h3, fun g hg => hK _ _ _ _ (hp.cons _) (h4 g (hg.perm (hp.cons _).symm))⟩)
  · exact .inr (.inr ⟨h1, h2, h3.weak (Weak.perm (hp.append_left S).symm)⟩)
theorem Can_perm {rest : KD} (hK : ∀ fr M L L', L.Perm L' → rest fr M L → rest fr M L') : ∀ (is : List Nat) (fr : List Value) (M : Nat → Option Obj) (L L' : List Atom), L.Perm L' → Can lk P T ops M0 S rest is fr M L → Can lk P T ops M0 S rest is fr M L'
  | [], fr, M, L, L', hp, h => hK _ _ _ _ hp h
  | i :: is, fr, M, L, L', hp, h => by
    unfold Can at h ⊢
    split
    · rename_i o ho
      simp only [ho] at h
      exact Stp_perm (Can_perm hK is) hp h
    · rename_i ho
      simp only [ho] at h
      exact Can_perm hK is _ _ _ _ hp h

/-- What may come now may be done now. -/
theorem front (hT : Tab.okFrom P 0 T) {rest : KD} (hK : ∀ fr M L L', L.Perm L' → rest fr M L → rest fr M L') {i : Nat} {oi : Oper} (hi : ops[i]? = some oi) : ∀ (is : List Nat) (fr : List Value) (M : Nat → Option Obj) (L : List Atom),
    i ∈ is → is.Pairwise (fun j k => k = i → ∀ oj, ops[j]? = some oj → oj.apart ops oi = true ∧ okPair lk oj oi = true) → MLe M0 M → Real S M L → Can lk P T ops M0 S rest is fr M L →
    Stp lk P T ops M0 S oi fr M L (Can lk P T ops M0 S rest (is.erase i))
  | [], _, _, _, hm, _, _, _, _ => by cases hm
  | j :: is, fr, M, L, hm, hp, hM, hr, h => by
    by_cases hji : j = i
    · subst hji
      unfold Can at h
      simp only [hi] at h
      rw [List.erase_cons_head]
      exact h
    · have hmi : i ∈ is := by rcases List.mem_cons.1 hm with e | e; exact absurd e.symm hji; exact e
      rw [List.erase_cons_tail (by simpa using hji)]
      unfold Can at h
      cases hj : ops[j]? with
      | none =>
        simp only [hj] at h
        have := front hT hK hi is fr M L hmi (List.pairwise_cons.1 hp).2 hM hr h
        have e : (Can lk P T ops M0 S rest (j :: is.erase i)) = (Can lk P T ops M0 S rest (is.erase i)) := by funext fr M L; simp [Can, hj]
        rw [e]; exact this
      | some oj =>
        simp only [hj] at h
        obtain ⟨hap, hok⟩ := (List.pairwise_cons.1 hp).1 i hmi rfl oj hj
        have h2 : Stp lk P T ops M0 S oj fr M L fun fr1 M1 L1 => Stp lk P T ops M0 S oi fr1 M1 L1 (Can lk P T ops M0 S rest (is.erase i)) :=
          Stp_mono h
            (fun v M' L' hm' hre hk => front hT hK hi is _ M' L' hmi (List.pairwise_cons.1 hp).2 (hM.trans hm') (hre hr) hk)
            (fun v M' L' hm' hre hk => front hT hK hi is _ M' L' hmi (List.pairwise_cons.1 hp).2 (hM.trans hm') hre hk)
        have h3 := swap hT hap hok (Can_perm hK (is.erase i)) hr hM h2
        have e : (Can lk P T ops M0 S rest (j :: is.erase i)) = fun fr1 M1 L1 => Stp lk P T ops M0 S oj fr1 M1 L1 (Can lk P T ops M0 S rest (is.erase i)) := by funext fr M L; simp [Can, hj]
        rw [e]; exact h3

/-! ### The machine -/
theorem wpOp_of_Stp (hT : Tab.okFrom P 0 T) {w0 w : World} {F : List Atom} {ds : List Deferred} {Q' : Exit → Act → World → Prop} {n : Nat} (hi : ops[n]? = some i) (hM : MLe M0 M) (hr : RepF w0 F ⟨M, S ++ L⟩ w)
    (h : Stp lk P T ops M0 S i fr M L K) : wpOp P ops Q' n (fun a w' => ∃ fr' M' L', a = ⟨fr'.toArray, ds⟩ ∧ MLe M0 M' ∧ RepF w0 F ⟨M', S ++ L'⟩ w' ∧ K fr' M' L') ⟨fr.toArray, ds⟩ w := by
  have hrS : RepF w0 (L ++ F) ⟨M0, S⟩ w := by
    have h1 : RepF w0 F ⟨M0, S ++ L⟩ w := Weak.shrinkM hM w0 F w hr
    unfold RepF at h1 ⊢
    rwa [List.append_assoc] at h1
  unfold wpOp
  simp only [hi]
  rcases h with ⟨v, ⟨hw, rfl⟩ | ⟨hw, hc, hq⟩, hk⟩ | ⟨hw, hc, ak, hak, hk⟩ | ⟨hw, hc, hq⟩
  · have hw' : ¬ (Region.wanted i (yielded ops fr.toArray) = true) := by unfold wants at hw; rw [hw]; simp
    rw [if_neg hw', put_setD]
    exact ⟨_, _, _, rfl, hM, hr, hk⟩
  · rw [if_pos (show Region.wanted i (yielded ops fr.toArray) = true from hw)]
    obtain ⟨x, h1, rfl⟩ := quiet_run hT (clsL_quiet hc) hrS hq
    refine .inl ?_
    unfold Oper.wp
    rw [evL_eq, h1, Oper.upon_value, put_setD]
    exact ⟨_, _, _, rfl, hM, hr, hk⟩
  · rw [if_pos (show Region.wanted i (yielded ops fr.toArray) = true from hw)]
    refine .inl ?_
    have hop := opF_ok (P := P) (K := fun v H' => ∃ g, H' = ⟨M, ak.atom g :: (S ++ L)⟩ ∧ v = ak.val g) (E := fun _ _ => False) hT i fr hr (opF_alloc_mk ak hak fun g => ⟨g, rfl, rfl⟩)
    unfold Oper.wp
    rw [evL_eq]
    refine upon_of_opRes hop ?_ (fun ch H' w' _ he => he.elim)
    rintro _ _ w' hr' ⟨g, rfl, rfl⟩
    rw [put_setD]
    have hr2 : RepF w0 F ⟨M, S ++ ak.atom g :: L⟩ w' := Weak.perm (List.perm_middle (l₁ := S) (l₂ := L) (a := ak.atom g)).symm _ _ _ hr'
    exact ⟨_, _, _, rfl, hM, hr2, hk g ⟨w0, F, w', hr2⟩⟩
  · rw [if_pos (show Region.wanted i (yielded ops fr.toArray) = true from hw)]
    refine .inl ?_
    have hop := hq w0 F w hr
    unfold Oper.wp
    rw [evL_eq]
    refine upon_of_opRes hop ?_ (fun ch H' w' _ he => he.elim)
    rintro v H' w' hr' ⟨M', L', h1, h2, h3⟩
    rw [put_setD]
    have hr2 := h1 w0 F w' hr'
    exact ⟨_, _, _, rfl, hM.trans h2, hr2, h3 ⟨w0, F, w', hr2⟩⟩

/-! ### What is looked at ahead -/
def depsOf (ops : Array Oper) (i : Nat) : List Nat :=
  match ops[i]? with
  | some o => (o.after.toList.filter fun e => Region.binds .any e).map (·.on)
  | none => []
def orAll (acc : List Nat) : List Nat → Nat → Nat
  | [], s => s
  | d :: ds, s => orAll acc ds (s ||| (2 ^ d ||| acc.getD d 0))
def masksL (ops : Array Oper) : Nat → List Nat → List Nat
  | 0, acc => acc
  | n + 1, acc => masksL ops n (acc ++ [orAll acc (depsOf ops acc.length) 0])
def allB (n : Nat) (f : Nat → Bool) : Bool := (List.range n).all f
def chkPair (lk : List Nat) (ops : Array Oper) (j i : Nat) : Bool :=
  match ops[j]?, ops[i]? with
  | some oj, some oi => oj.apart ops oi && okPair lk oj oi
  | _, _ => false
def pairB (f : Nat → Nat → Bool) : List Nat → Bool
  | [] => true
  | a :: l => (l.all fun b => f a b) && pairB f l
theorem pairB_spec {f : Nat → Nat → Bool} : ∀ {l : List Nat}, pairB f l = true → l.Pairwise fun a b => f a b = true
  | [], _ => .nil
  | a :: l, h => by
    simp only [pairB, Bool.and_eq_true, List.all_eq_true] at h
    exact .cons h.1 (pairB_spec h.2)
/-- The head's operations are the first n, taken in the order 'ord'; the others come one after the other. -/
def chkD (lk : List Nat) (ops : Array Oper) (n : Nat) (ord : List Nat) : Bool :=
  let ms := masksL ops n []
  let bit := fun i j => Nat.testBit (ms.getD i 0) j
  decide (n ≤ ops.size) && decide (0 < n) && Nat.beq ord.length n &&
  (ord.all fun i => Nat.blt i n) && allB n (fun i => ord.contains i) &&
  pairB (fun j i => !Nat.beq j i && !(depsOf ops j).contains i && (bit i j || chkPair lk ops j i)) ord &&
  allB n (fun i => (depsOf ops i).all fun d => decide (d < n)) && allB n (fun i => !(depsOf ops i).contains i) &&
  allB n (fun i => allB n fun j => !bit i j || ((depsOf ops i).contains j || (depsOf ops i).any fun d => bit d j)) &&
  (List.range ops.size).all (fun k => decide (k < n) || allB n fun i => (depsOf ops k).contains i || (depsOf ops k).any fun d => Nat.blt d n && bit d i) &&
  Region.seqB .any ops (ops.size - n) n (List.replicate n true ++ List.replicate (ops.size - n) false).toArray

theorem allB_spec {n : Nat} {f : Nat → Bool} (h : allB n f = true) {i : Nat} (hi : i < n) : f i = true := by
  unfold allB at h
  rw [List.all_eq_true] at h
  exact h i (List.mem_range.2 hi)

theorem ready_deps {ops : Array Oper} {listed : Array Bool} {i : Nat} (h : i ∈ Region.ready .any ops listed) : i < ops.size ∧ listed.getD i true = false ∧ ∀ d ∈ depsOf ops i, listed.getD d false = true := by
  unfold Region.ready at h
  rw [List.mem_filter, List.mem_range] at h
  obtain ⟨h1, h2⟩ := h
  simp only [Bool.and_eq_true, Bool.not_eq_true'] at h2
  refine ⟨h1, h2.1, fun d hd => ?_⟩
  unfold depsOf at hd
  have h3 := h2.2
  cases ho : ops[i]? with
  | none => rw [ho] at hd; cases hd
  | some o =>
    rw [ho] at hd h3
    simp only [Option.map_some, Option.getD_some] at h3
    rw [List.mem_map] at hd
    obtain ⟨e, he, rfl⟩ := hd
    rw [List.mem_filter] at he
    have := Array.all_eq_true_iff_forall_mem.1 h3 e (by simpa using he.1)
    simpa [he.2] using this
theorem deps_ready {ops : Array Oper} {listed : Array Bool} {i : Nat} (hi : i < ops.size) (hl : listed.getD i true = false) (h : ∀ d ∈ depsOf ops i, listed.getD d false = true) : i ∈ Region.ready .any ops listed := by
  unfold Region.ready
  rw [List.mem_filter, List.mem_range]
  refine ⟨hi, ?_⟩
  simp only [Bool.and_eq_true, Bool.not_eq_true']
  refine ⟨hl, ?_⟩
  have ho : ops[i]? = some ops[i] := by simp [hi]
  rw [ho]
  simp only [Option.map_some, Option.getD_some]
  rw [Array.all_eq_true_iff_forall_mem]
  intro e he
  by_cases hb : Region.binds .any e = true
  · simp only [hb, Bool.not_true, Bool.false_or]
    refine h e.on ?_
    unfold depsOf
    rw [ho]
    exact List.mem_map.2 ⟨e, List.mem_filter.2 ⟨by simpa using he, hb⟩, rfl⟩
  · simp [hb]

theorem getD_both' {listed : Array Bool} {i : Nat} (h : listed.getD i false = true) : listed.getD i true = true := by
  by_cases hi : i < listed.size
  · simp [Array.getD, hi] at h ⊢; exact h
  · simp [Array.getD, hi] at h
theorem getD_set_self' {listed : Array Bool} {i : Nat} (hi : i < listed.size) (b : Bool) : (listed.setIfInBounds i true).getD i b = true := by
  simp [Array.getD, hi]
theorem getD_set_ne' {listed : Array Bool} {i j : Nat} (h : i ≠ j) (b : Bool) : (listed.setIfInBounds i true).getD j b = listed.getD j b := by
  simp only [Array.getD, Array.size_setIfInBounds]
  split
  · rename_i hj
    rw [Array.getInternal_eq_getElem, Array.getInternal_eq_getElem, Array.getElem_setIfInBounds_ne]
    exact h
  · rfl

structure InvD (ops : Array Oper) (n : Nat) (ord rem : List Nat) (listed : Array Bool) : Prop where
  size : listed.size = ops.size
  sub : rem.Sublist ord
  mem : ∀ i, i ∈ rem ↔ i < n ∧ listed.getD i true = false
  tail : ∀ i, n ≤ i → i < ops.size → listed.getD i true = false
  closed : ∀ i, i < n → listed.getD i false = true → ∀ j, j < n → Nat.testBit ((masksL ops n []).getD i 0) j = true → listed.getD j false = true

theorem any_of_Can (hT : Tab.okFrom P 0 T) {n : Nat} {ord : List Nat} (hchk : chkD lk ops n ord = true) {w0 : World} {F : List Atom} {ds : List Deferred} {Q' : Exit → Act → World → Prop} {rest : KD}
    (hK : ∀ fr M L L', L.Perm L' → rest fr M L → rest fr M L')
    (hrest : ∀ fr M L w, MLe M0 M → RepF w0 F ⟨M, S ++ L⟩ w → rest fr M L → wpList P ops Q' (ops.toList.drop n) ⟨fr.toArray, ds⟩ w) :
    ∀ (rem : List Nat) (listed : Array Bool) (fr : List Value) (M : Nat → Option Obj) (L : List Atom) (w : World), InvD ops n ord rem listed → MLe M0 M → RepF w0 F ⟨M, S ++ L⟩ w → Can lk P T ops M0 S rest rem fr M L →
      wpAny P .any ops Q' (rem.length + (ops.size - n)) listed ⟨fr.toArray, ds⟩ w := by
  have hchk0 := hchk
  unfold chkD at hchk
  simp only [Bool.and_eq_true, decide_eq_true_eq] at hchk
  obtain ⟨⟨⟨⟨⟨⟨⟨⟨⟨⟨hn, hn0⟩, hol⟩, hoall⟩, hoc⟩, hpairs⟩, hdeps⟩, hself0⟩, hmask⟩, htail⟩, hseq⟩ := hchk
  have hpw := pairB_spec hpairs
  have hond : ord.Nodup := hpw.imp fun {a b} h => by
    simp only [Bool.and_eq_true, Bool.not_eq_true'] at h
    exact Nat.ne_of_beq_eq_false h.1.1
  intro rem
  generalize hlen : rem.length = len
  induction len generalizing rem with
  | zero =>
    intro listed fr M L w inv hM hr h
    obtain rfl : rem = [] := List.eq_nil_of_length_eq_zero hlen
    have hl : listed = (List.replicate n true ++ List.replicate (ops.size - n) false).toArray := by
      apply Array.ext
      · simp [inv.size]; omega
      · intro j h1 h2
        have hj : j < ops.size := by rw [← inv.size]; exact h1
        have hgd : listed.getD j true = listed[j] := by simp [Array.getD, h1]
        simp only [List.getElem_toArray]
        by_cases hjn : j < n
        · rw [List.getElem_append_left (by simpa using hjn)]
          simp only [List.getElem_replicate]
          have := inv.mem j
          simp only [List.not_mem_nil, false_iff, not_and, Bool.not_eq_false] at this
          rw [← hgd]; exact this hjn
        · rw [List.getElem_append_right (by simpa using hjn)]
          simp only [List.getElem_replicate]
          rw [← hgd]; exact inv.tail j (by omega) hj
    have hdl : (ops.toList.drop n).length = ops.size - n := by simp
    rw [Nat.zero_add, ← hdl]
    refine wpAny_of_seq (ops.toList.drop n) n listed _ w (fun j => by simp) ?_ (hrest fr M L w hM hr h)
    rw [hdl, hl]; exact hseq
  | succ len ih =>
    intro listed fr M L w inv hM hr h
    rw [show len + 1 + (ops.size - n) = (len + (ops.size - n)) + 1 by omega]
    -- the first that is left is ready
    obtain ⟨i0, rem', rfl⟩ : ∃ i0 rem', rem = i0 :: rem' := List.exists_cons_of_length_eq_add_one hlen
    have hi0 := (inv.mem i0).1 (List.mem_cons_self ..)
    have hin : ∀ j, j < n → listed.getD j true = true → listed.getD j false = true := by
      intro j hj hl
      have : j < listed.size := by rw [inv.size]; omega
      simp [Array.getD, this] at hl ⊢; exact hl
    have hready0 : i0 ∈ Region.ready .any ops listed := by
      refine deps_ready (by omega) hi0.2 fun d hd => ?_
      have hd0 := allB_spec hdeps hi0.1
      rw [List.all_eq_true] at hd0
      have hdlt : d < n := by simpa using hd0 d hd
      refine hin d hdlt ?_
      cases hl : listed.getD d true with
      | true => rfl
      | false =>
        have hm := (inv.mem d).2 ⟨hdlt, hl⟩
        rcases List.mem_cons.1 hm with e | e
        · -- it would wait for itself
          exfalso
          subst e
          have hself := allB_spec hself0 hi0.1
          simp only [Bool.not_eq_true'] at hself
          rw [List.contains_eq_mem] at hself
          simp [hd] at hself
        · have h1 := (List.pairwise_cons.1 (hpw.sublist inv.sub)).1 d e
          simp only [Bool.and_eq_true, Bool.not_eq_true'] at h1
          have h2 := h1.1.2
          rw [List.contains_eq_mem] at h2
          simp [hd] at h2
    refine ⟨fun he => (by rw [he] at hready0; cases hready0), fun i hi => ?_⟩
    obtain ⟨hisz, hil, hid⟩ := ready_deps hi
    -- it is one of the head's
    have hin' : i < n := by
      rcases Nat.lt_or_ge i n with h1 | h1
      · exact h1
      · rw [List.all_eq_true] at htail
        have := htail i (List.mem_range.2 hisz)
        simp only [Bool.or_eq_true, decide_eq_true_eq] at this
        rcases this with h2 | h2
        · omega
        · have := allB_spec h2 hi0.1
          simp only [Bool.or_eq_true] at this
          rcases this with hm | hm
          · have hm : i0 ∈ depsOf ops i := by simpa using hm
            have := getD_both' (hid i0 hm)
            rw [hi0.2] at this; cases this
          · rw [List.any_eq_true] at hm
            obtain ⟨d, hd, hb⟩ := hm
            simp only [Bool.and_eq_true, Nat.blt_eq] at hb
            have := getD_both' (inv.closed d hb.1 (hid d hd) i0 hi0.1 hb.2)
            rw [hi0.2] at this; cases this
    have hmem : i ∈ (i0 :: rem') := (inv.mem i).2 ⟨hin', hil⟩
    have hoi : ops[i]? = some ops[i] := by simp [hisz]
    -- all ahead of it in its masks has been done
    have hbits : ∀ j, j < n → Nat.testBit ((masksL ops n []).getD i 0) j = true → listed.getD j false = true := by
      intro j hj hb
      have h1 := allB_spec (allB_spec hmask hin') hj
      simp only [hb, Bool.not_true, Bool.false_or, Bool.or_eq_true] at h1
      rcases h1 with h1 | h1
      · exact hid j (by simpa using h1)
      · rw [List.any_eq_true] at h1
        obtain ⟨d, hd, hdb⟩ := h1
        have hd0 := allB_spec hdeps hin'
        rw [List.all_eq_true] at hd0
        have hdlt : d < n := by simpa using hd0 d hd
        exact inv.closed d hdlt (hid d hd) j hj hdb
    have hpair : (i0 :: rem').Pairwise fun j k => k = i → ∀ oj, ops[j]? = some oj → oj.apart ops ops[i] = true ∧ okPair lk oj ops[i] = true := by
      refine (List.Pairwise.and_mem.1 (hpw.sublist inv.sub)).imp ?_
      rintro j k ⟨hj, _, h1⟩ rfl oj hoj
      have hjm := (inv.mem j).1 hj
      simp only [Bool.and_eq_true, Bool.or_eq_true] at h1
      rcases h1.2 with h1 | h1
      · have := getD_both' (hbits j hjm.1 h1)
        rw [hjm.2] at this; cases this
      · unfold chkPair at h1
        rw [hoj, hoi] at h1
        simpa using h1
    have hstp := front hT hK hoi (i0 :: rem') fr M L hmem hpair hM ⟨w0, F, w, hr⟩ h
    refine wpOp_mono ?_ (wpOp_of_Stp (ds := ds) hT hoi hM hr hstp)
    rintro a w' ⟨fr', M', L', rfl, hM', hr', hk⟩
    refine ih ((i0 :: rem').erase i) (by rw [List.length_erase_of_mem hmem, hlen]; rfl) _ fr' M' L' w' ?_ hM' hr' hk
    have hisz' : i < listed.size := by rw [inv.size]; exact hisz
    have hnd : (i0 :: rem').Nodup := hond.sublist inv.sub
    refine ⟨by simp [inv.size], (List.erase_sublist).trans inv.sub, fun j => ?_, fun j h1 h2 => ?_, fun p hp hl j hj hb => ?_⟩
    · rw [hnd.mem_erase_iff, inv.mem j]
      by_cases hji : i = j
      · subst hji
        simp [getD_set_self' hisz']
      · rw [getD_set_ne' hji]
        constructor
        · rintro ⟨_, h⟩; exact h
        · intro h; exact ⟨fun e => hji e.symm, h⟩
    · rw [getD_set_ne' (by omega)]; exact inv.tail j h1 h2
    · by_cases hij : i = j
      · subst hij; exact getD_set_self' hisz' _
      · rw [getD_set_ne' hij]
        by_cases hip : i = p
        · subst hip; exact hbits j hj hb
        · rw [getD_set_ne' hip] at hl
          exact inv.closed p hp hl j hj hb
end
end Go.Proofs.Ytohdcmkooedkcaa.A
