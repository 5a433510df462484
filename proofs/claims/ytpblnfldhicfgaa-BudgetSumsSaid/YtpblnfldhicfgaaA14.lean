/- Statements whose order Go leaves open, in which an operation may panic: all that comes after it in the order that is walked waits for it. -/
import Derived.Test.YtpblnfldhicfgaaA13
namespace Go.Proofs.Ytpblnfldhicfgaa.A
open Go Go.RowKit
set_option linter.unusedVariables false
set_option linter.unusedSimpArgs false

def SemOpE (P : Program) (o : Oper) (fr : List Value) (H : Hp) (K : Value → Hp → Prop) (E : List PanicEntry → Hp → Prop) : Prop :=
  ∀ w0 F w, RepF w0 F H w → OpRes P w0 F K E ((execOp (evL fr) o).run P w)
section
variable {lk : List Nat} {P : Program} {T : Tab} {H : Hp} {fr fr' : List Value} {K K2 : Value → Hp → Prop} {E E2 : List PanicEntry → Hp → Prop} {o : Oper}
theorem opResE_mono {w0 : World} {F F' : List Atom} {r : Result Next} (h : OpRes P w0 F K E r) (hk : ∀ v H' w', RepF w0 F H' w' → K v H' → ∃ H'', RepF w0 F' H'' w' ∧ K2 v H'')
    (he : ∀ ch H' w', RepF w0 F H' w' → E ch H' → ∃ H'', RepF w0 F' H'' w' ∧ E2 ch H'') : OpRes P w0 F' K2 E2 r := by
  unfold OpRes at h ⊢
  split at h
  · obtain ⟨H', h1, h2⟩ := h; exact hk _ _ _ h1 h2
  · obtain ⟨H', h1, h2⟩ := h; exact hk _ _ _ h1 h2
  · refine Calls.mono h fun e w'' ⟨H', h1, h2⟩ => ?_
    cases e with
    | returned v => exact hk _ _ _ h1 h2
    | panicked ch => exact he _ _ _ h1 h2
    | outgrown => exact h2.elim
  · obtain ⟨H', h1, h2⟩ := h; exact he _ _ _ h1 h2
  · exact h.elim
theorem SemOpE.mono (h : SemOpE P o fr H K E) (hk : ∀ v H', K v H' → K2 v H') (he : ∀ ch H', E ch H' → E2 ch H') : SemOpE P o fr H K2 E2 :=
  fun w0 F w hr => opResE_mono (h w0 F w hr) (fun v H' w' h1 h2 => ⟨H', h1, hk v H' h2⟩) (fun ch H' w' h1 h2 => ⟨H', h1, he ch H' h2⟩)
theorem SemOpE.weak {H1 : Hp} (hw : Weak H H1) (h : SemOpE P o fr H1 K E) : SemOpE P o fr H K E := fun w0 F w hr => h w0 F w (hw w0 F w hr)
theorem SemOpE.congr (hs : ∀ cs b, o.op ≠ .select cs b) (h : ∀ x ∈ o.op.operands, evL fr x = evL fr' x) (ho : SemOpE P o fr H K E) : SemOpE P o fr' H K E := fun w0 F w hr => by
  rw [← execOp_congr o hs h]; exact ho w0 F w hr
theorem semOpE_of (hT : Tab.okFrom P 0 T) (h : opF P T o.op fr H K E) : SemOpE P o fr H K E := fun w0 F w hr => opF_ok hT o fr hr h
end

section
variable (lk : List Nat) (P : Program) (T : Tab) (ops : Array Oper) (M0 : Nat → Option Obj) (S : List Atom) (E : List PanicEntry → Hp → Prop)
/-- One operation; b: it may panic. -/
def StpE (b : Bool) (o : Oper) (fr : List Value) (M : Nat → Option Obj) (L : List Atom) (K : KD) : Prop :=
  Stp lk P T ops M0 S o fr M L K ∨
  (b = true ∧ wants ops o fr = true ∧ clsL lk o = .call ∧ SemOpE P o fr ⟨M, S ++ L⟩ (fun v H' => ∃ M' L', Weak H' ⟨M', S ++ L'⟩ ∧ MLe M M' ∧ (Real S M' L' → K (setD fr o.dst v) M' L')) E)
def CanE (mp : List Nat) (rest : KD) : List Nat → KD
  | [], fr, M, L => rest fr M L
  | i :: is, fr, M, L =>
    match ops[i]? with
    | some o => StpE lk P T ops M0 S E (mp.contains i) o fr M L (CanE mp rest is)
    | none => CanE mp rest is fr M L
end

section
variable {lk : List Nat} {P : Program} {T : Tab} {ops : Array Oper} {M0 M : Nat → Option Obj} {S L : List Atom} {fr : List Value} {o i : Oper} {K K' : KD} {E : List PanicEntry → Hp → Prop}

theorem StpE_perm {b : Bool} {L' : List Atom} (hK : ∀ fr M L L', L.Perm L' → K fr M L → K fr M L') (hp : L.Perm L') (h : StpE lk P T ops M0 S E b o fr M L K) : StpE lk P T ops M0 S E b o fr M L' K := by
  rcases h with h | ⟨h0, h1, h2, h3⟩
  · exact .inl (Stp_perm hK hp h)
  · exact .inr ⟨h0, h1, h2, h3.weak (Weak.perm (hp.append_left S).symm)⟩
theorem CanE_perm {mp : List Nat} {rest : KD} (hK : ∀ fr M L L', L.Perm L' → rest fr M L → rest fr M L') : ∀ (is : List Nat) (fr : List Value) (M : Nat → Option Obj) (L L' : List Atom), L.Perm L' → CanE lk P T ops M0 S E mp rest is fr M L → CanE lk P T ops M0 S E mp rest is fr M L'
  | [], fr, M, L, L', hp, h => hK _ _ _ _ hp h
  | i :: is, fr, M, L, L', hp, h => by
    unfold CanE at h ⊢
    split
    · rename_i o ho
      simp only [ho] at h
      exact StpE_perm (CanE_perm hK is) hp h
    · rename_i ho
      simp only [ho] at h
      exact CanE_perm hK is _ _ _ _ hp h

/-- An operation that does not panic gives way to one that may. -/
theorem swapE (hT : Tab.okFrom P 0 T) {b : Bool} (hap : o.apart ops i = true) (hok : okPair lk o i = true) (hK : ∀ fr M L L', L.Perm L' → K fr M L → K fr M L') (hr : Real S M L) (hM : MLe M0 M)
    (h : Stp lk P T ops M0 S o fr M L fun fr1 M1 L1 => StpE lk P T ops M0 S E b i fr1 M1 L1 K) : StpE lk P T ops M0 S E b i fr M L fun fr1 M1 L1 => Stp lk P T ops M0 S o fr1 M1 L1 K := by
  obtain ⟨a1, a2, a3⟩ := Oper.apart_spec hap
  have hrep := real_rep hr hM
  have comm : ∀ v u, setD (setD fr o.dst v) i.dst u = setD (setD fr i.dst u) o.dst v := fun v u => setD_comm a2
  have hli : ∀ t, o.dst = some t → t ∉ i.looksAt ops := a1
  have hlo : ∀ t, i.dst = some t → t ∉ o.looksAt ops := a3
  -- where i is a call, o is quiet
  by_cases hci : clsL lk i = .call ∧ b = true
  · rcases h with ⟨v, hd, h⟩ | ⟨hw, hc, ak, hak, h⟩ | ⟨hw, hc, h⟩
    · rcases h with h | ⟨h0, h1, h2, h3⟩
      · exact .inl (swap hT hap hok hK hr hM (.inl ⟨v, hd, h⟩))
      · exact .inr ⟨h0, by rw [← h1]; exact (wants_setD hli).symm, h2, (h3.congr (cls_call_sel h2) (operands_setD hli)).mono (fun u H' ⟨M', L', a, b, c⟩ => ⟨M', L', a, b, fun hr => .inl ⟨v, Det_setD' hlo hd, by rw [← comm]; exact c hr⟩⟩) (fun _ _ h => h)⟩
    · simp only [okPair, hc, hci.1] at hok; cases hok
    · simp only [okPair, hc, hci.1] at hok; cases hok
  · have down : ∀ fr1 M1 L1, StpE lk P T ops M0 S E b i fr1 M1 L1 K → Stp lk P T ops M0 S i fr1 M1 L1 K := fun fr1 M1 L1 h => by
      rcases h with h | ⟨h0, h1, h2, h3⟩
      · exact h
      · exact absurd ⟨h2, h0⟩ hci
    refine .inl (swap hT hap hok hK hr hM ?_)
    exact Stp_mono h (fun v M' L' _ _ hk => down _ _ _ hk) (fun v M' L' _ _ hk => down _ _ _ hk)

theorem StpE_mono {b : Bool} (h : StpE lk P T ops M0 S E b o fr M L K) (hk : ∀ v M' L', MLe M M' → (Real S M L → Real S M' L') → K (setD fr o.dst v) M' L' → K' (setD fr o.dst v) M' L')
    (hk2 : ∀ v M' L', MLe M M' → Real S M' L' → K (setD fr o.dst v) M' L' → K' (setD fr o.dst v) M' L') : StpE lk P T ops M0 S E b o fr M L K' := by
  rcases h with h | ⟨h0, h1, h2, h3⟩
  · exact .inl (Stp_mono h hk hk2)
  · exact .inr ⟨h0, h1, h2, h3.mono (fun v H' ⟨M', L', a, b, c⟩ => ⟨M', L', a, b, fun hr => hk2 _ _ _ b hr (c hr)⟩) (fun _ _ h => h)⟩

theorem frontE (hT : Tab.okFrom P 0 T) {mp : List Nat} {rest : KD} (hK : ∀ fr M L L', L.Perm L' → rest fr M L → rest fr M L') {i : Nat} {oi : Oper} (hi : ops[i]? = some oi) : ∀ (is : List Nat) (fr : List Value) (M : Nat → Option Obj) (L : List Atom),
    i ∈ is → is.Pairwise (fun j k => k = i → mp.contains j = false ∧ ∀ oj, ops[j]? = some oj → oj.apart ops oi = true ∧ okPair lk oj oi = true) → MLe M0 M → Real S M L → CanE lk P T ops M0 S E mp rest is fr M L →
    StpE lk P T ops M0 S E (mp.contains i) oi fr M L (CanE lk P T ops M0 S E mp rest (is.erase i))
  | [], _, _, _, hm, _, _, _, _ => by cases hm
  | j :: is, fr, M, L, hm, hp, hM, hr, h => by
    by_cases hji : j = i
    · subst hji
      unfold CanE at h
      simp only [hi] at h
      rw [List.erase_cons_head]
      exact h
    · have hmi : i ∈ is := by rcases List.mem_cons.1 hm with e | e; exact absurd e.symm hji; exact e
      rw [List.erase_cons_tail (by simpa using hji)]
      unfold CanE at h
      cases hj : ops[j]? with
      | none =>
        simp only [hj] at h
        have := frontE hT hK hi is fr M L hmi (List.pairwise_cons.1 hp).2 hM hr h
        have e : (CanE lk P T ops M0 S E mp rest (j :: is.erase i)) = (CanE lk P T ops M0 S E mp rest (is.erase i)) := by funext fr M L; simp [CanE, hj]
        rw [e]; exact this
      | some oj =>
        simp only [hj] at h
        obtain ⟨hjm, hpj⟩ := (List.pairwise_cons.1 hp).1 i hmi rfl
        obtain ⟨hap, hok⟩ := hpj oj hj
        have h0 : Stp lk P T ops M0 S oj fr M L (CanE lk P T ops M0 S E mp rest is) := by
          rcases h with h | ⟨h0, _⟩
          · exact h
          · rw [hjm] at h0; cases h0
        have h2 : Stp lk P T ops M0 S oj fr M L fun fr1 M1 L1 => StpE lk P T ops M0 S E (mp.contains i) oi fr1 M1 L1 (CanE lk P T ops M0 S E mp rest (is.erase i)) :=
          Stp_mono h0
            (fun v M' L' hm' hre hk => frontE hT hK hi is _ M' L' hmi (List.pairwise_cons.1 hp).2 (hM.trans hm') (hre hr) hk)
            (fun v M' L' hm' hre hk => frontE hT hK hi is _ M' L' hmi (List.pairwise_cons.1 hp).2 (hM.trans hm') hre hk)
        have h3 := swapE hT hap hok (CanE_perm hK (is.erase i)) hr hM h2
        have e : (CanE lk P T ops M0 S E mp rest (j :: is.erase i)) = fun fr1 M1 L1 => StpE lk P T ops M0 S E (mp.contains j) oj fr1 M1 L1 (CanE lk P T ops M0 S E mp rest (is.erase i)) := by funext fr M L; simp [CanE, hj]
        rw [e]
        exact StpE_mono h3 (fun v M' L' _ _ hk => .inl hk) (fun v M' L' _ _ hk => .inl hk)

theorem wpOp_of_StpE (hT : Tab.okFrom P 0 T) {b : Bool} {w0 w : World} {F : List Atom} {ds : List Deferred} {Q' : Exit → Act → World → Prop} {n : Nat} (hi : ops[n]? = some i) (hM : MLe M0 M) (hr : RepF w0 F ⟨M, S ++ L⟩ w)
    (h : StpE lk P T ops M0 S E b i fr M L K) (hE : ∀ ch H' w', RepF w0 F H' w' → E ch H' → Q' (.panic ch) ⟨fr.toArray, ds⟩ w') :
    wpOp P ops Q' n (fun a w' => ∃ fr' M' L', a = ⟨fr'.toArray, ds⟩ ∧ MLe M0 M' ∧ RepF w0 F ⟨M', S ++ L'⟩ w' ∧ K fr' M' L') ⟨fr.toArray, ds⟩ w := by
  rcases h with h | ⟨h0, hw, hc, hq⟩
  · exact wpOp_of_Stp hT hi hM hr h
  · unfold wpOp
    simp only [hi]
    rw [if_pos (show Region.wanted i (yielded ops fr.toArray) = true from hw)]
    refine .inl ?_
    have hop := hq w0 F w hr
    unfold Oper.wp
    rw [evL_eq]
    refine upon_of_opRes hop ?_ hE
    rintro v H' w' hr' ⟨M', L', h1, h2, h3⟩
    rw [put_setD]
    have hr2 := h1 w0 F w' hr'
    exact ⟨_, _, _, rfl, hM.trans h2, hr2, h3 ⟨w0, F, w', hr2⟩⟩
end
end Go.Proofs.Ytpblnfldhicfgaa.A
