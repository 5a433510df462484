/- The theorem on such statements, and how one is walked. -/
import Derived.Test.YtpblnfldhicfgaaA14
namespace Go.Proofs.Ytpblnfldhicfgaa.A
open Go Go.RowKit
set_option linter.unusedVariables false
set_option linter.unusedSimpArgs false

section
variable {lk : List Nat} {P : Program} {T : Tab} {ops : Array Oper} {M0 M : Nat → Option Obj} {S L : List Atom} {fr : List Value} {o i : Oper} {K K' : KD}

theorem any_of_CanE (hT : Tab.okFrom P 0 T) {n : Nat} {ord : List Nat} {mp : List Nat} (hchk : chkD lk ops n ord = true) (hmp : pairB (fun j i => Nat.testBit ((masksL ops n []).getD i 0) j || !mp.contains j) ord = true) {keep : List Value → Prop} (hkeep : ∀ (i : Nat) (o : Oper) (fr : List Value) (v : Value), ops[i]? = some o → keep fr → keep (setD fr o.dst v)) {w0 : World} {F : List Atom} {ds : List Deferred} {Q' : Exit → Act → World → Prop} {rest : KD} {E : List PanicEntry → Hp → Prop} (hE : ∀ fr, keep fr → ∀ ch H' w', RepF w0 F H' w' → E ch H' → Q' (.panic ch) ⟨fr.toArray, ds⟩ w')
    (hK : ∀ fr M L L', L.Perm L' → rest fr M L → rest fr M L')
    (hrest : ∀ fr M L w, MLe M0 M → RepF w0 F ⟨M, S ++ L⟩ w → rest fr M L → wpList P ops Q' (ops.toList.drop n) ⟨fr.toArray, ds⟩ w) :
    ∀ (rem : List Nat) (listed : Array Bool) (fr : List Value) (M : Nat → Option Obj) (L : List Atom) (w : World), InvD ops n ord rem listed → MLe M0 M → RepF w0 F ⟨M, S ++ L⟩ w → keep fr → CanE lk P T ops M0 S E mp rest rem fr M L →
      wpAny P .any ops Q' (rem.length + (ops.size - n)) listed ⟨fr.toArray, ds⟩ w := by
  have hchk0 := hchk
  unfold chkD at hchk
  simp only [Bool.and_eq_true, decide_eq_true_eq] at hchk
  obtain ⟨⟨⟨⟨⟨⟨⟨⟨⟨⟨hn, hn0⟩, hol⟩, hoall⟩, hoc⟩, hpairs⟩, hdeps⟩, hself0⟩, hmask⟩, htail⟩, hseq⟩ := hchk
  have hpw := pairB_spec hpairs
  have hpm := pairB_spec hmp
  have hond : ord.Nodup := hpw.imp fun {a b} h => by
    simp only [Bool.and_eq_true, Bool.not_eq_true'] at h
    exact Nat.ne_of_beq_eq_false h.1.1
  intro rem
  generalize hlen : rem.length = len
  induction len generalizing rem with
  | zero =>
    intro listed fr M L w inv hM hr hkf h
    obtain rfl : rem = [] := List.eq_nil_of_length_eq_zero hlen
    have hl : listed = (List.replicate n true ++ List.replicate (ops.size - n) false).toArray := by
      apply Array.ext
      · simp [inv.size]; omega
      · intro j h1 h2
        have hj : j < ops.size := by rw [← inv.size]; exact h1
        have hgd : listed.getD j true = listed[j] := by simp [Array.getD, h1]
        simp only [List.getElem_toArray]
        by_cases hjn : j < n
        · rw [List.getElem_append_left (by simpa using hjn)]
          simp only [List.getElem_replicate]
          have := inv.mem j
          simp only [List.not_mem_nil, false_iff, not_and, Bool.not_eq_false] at this
          rw [← hgd]; exact this hjn
        · rw [List.getElem_append_right (by simpa using hjn)]
          simp only [List.getElem_replicate]
          rw [← hgd]; exact inv.tail j (by omega) hj
    have hdl : (ops.toList.drop n).length = ops.size - n := by simp
    rw [Nat.zero_add, ← hdl]
    refine wpAny_of_seq (ops.toList.drop n) n listed _ w (fun j => by simp) ?_ (hrest fr M L w hM hr h)
    rw [hdl, hl]; exact hseq
  | succ len ih =>
    intro listed fr M L w inv hM hr hkf h
    rw [show len + 1 + (ops.size - n) = (len + (ops.size - n)) + 1 by omega]
    -- the first that is left is ready
    obtain ⟨i0, rem', rfl⟩ : ∃ i0 rem', rem = i0 :: rem' := List.exists_cons_of_length_eq_add_one hlen
    have hi0 := (inv.mem i0).1 (List.mem_cons_self ..)
    have hin : ∀ j, j < n → listed.getD j true = true → listed.getD j false = true := by
      intro j hj hl
      have : j < listed.size := by rw [inv.size]; omega
      simp [Array.getD, this] at hl ⊢; exact hl
    have hready0 : i0 ∈ Region.ready .any ops listed := by
      refine deps_ready (by omega) hi0.2 fun d hd => ?_
      have hd0 := allB_spec hdeps hi0.1
      rw [List.all_eq_true] at hd0
      have hdlt : d < n := by simpa using hd0 d hd
      refine hin d hdlt ?_
      cases hl : listed.getD d true with
      | true => rfl
      | false =>
        have hm := (inv.mem d).2 ⟨hdlt, hl⟩
        rcases List.mem_cons.1 hm with e | e
        · -- it would wait for itself
          exfalso
          subst e
          have hself := allB_spec hself0 hi0.1
          simp only [Bool.not_eq_true'] at hself
          rw [List.contains_eq_mem] at hself
          simp [hd] at hself
        · have h1 := (List.pairwise_cons.1 (hpw.sublist inv.sub)).1 d e
          simp only [Bool.and_eq_true, Bool.not_eq_true'] at h1
          have h2 := h1.1.2
          rw [List.contains_eq_mem] at h2
          simp [hd] at h2
    refine ⟨fun he => (by rw [he] at hready0; cases hready0), fun i hi => ?_⟩
    obtain ⟨hisz, hil, hid⟩ := ready_deps hi
    -- it is one of the head's
    have hin' : i < n := by
      rcases Nat.lt_or_ge i n with h1 | h1
      · exact h1
      · rw [List.all_eq_true] at htail
        have := htail i (List.mem_range.2 hisz)
        simp only [Bool.or_eq_true, decide_eq_true_eq] at this
        rcases this with h2 | h2
        · omega
        · have := allB_spec h2 hi0.1
          simp only [Bool.or_eq_true] at this
          rcases this with hm | hm
          · have hm : i0 ∈ depsOf ops i := by simpa using hm
            have := getD_both' (hid i0 hm)
            rw [hi0.2] at this; cases this
          · rw [List.any_eq_true] at hm
            obtain ⟨d, hd, hb⟩ := hm
            simp only [Bool.and_eq_true, Nat.blt_eq] at hb
            have := getD_both' (inv.closed d hb.1 (hid d hd) i0 hi0.1 hb.2)
            rw [hi0.2] at this; cases this
    have hmem : i ∈ (i0 :: rem') := (inv.mem i).2 ⟨hin', hil⟩
    have hoi : ops[i]? = some ops[i] := by simp [hisz]
    -- all ahead of it in its masks has been done
    have hbits : ∀ j, j < n → Nat.testBit ((masksL ops n []).getD i 0) j = true → listed.getD j false = true := by
      intro j hj hb
      have h1 := allB_spec (allB_spec hmask hin') hj
      simp only [hb, Bool.not_true, Bool.false_or, Bool.or_eq_true] at h1
      rcases h1 with h1 | h1
      · exact hid j (by simpa using h1)
      · rw [List.any_eq_true] at h1
        obtain ⟨d, hd, hdb⟩ := h1
        have hd0 := allB_spec hdeps hin'
        rw [List.all_eq_true] at hd0
        have hdlt : d < n := by simpa using hd0 d hd
        exact inv.closed d hdlt (hid d hd) j hj hdb
    have hpair : (i0 :: rem').Pairwise fun j k => k = i → mp.contains j = false ∧ ∀ oj, ops[j]? = some oj → oj.apart ops ops[i] = true ∧ okPair lk oj ops[i] = true := by
      refine (List.Pairwise.and_mem.1 ((hpw.and hpm).sublist inv.sub)).imp ?_
      rintro j k ⟨hj, _, h1, h1m⟩ rfl
      have hjm := (inv.mem j).1 hj
      have nobit : Nat.testBit ((masksL ops n []).getD k 0) j = false := by
        cases hb : Nat.testBit ((masksL ops n []).getD k 0) j with
        | false => rfl
        | true =>
          have := getD_both' (hbits j hjm.1 hb)
          rw [hjm.2] at this; cases this
      refine ⟨?_, fun oj hoj => ?_⟩
      · rw [nobit] at h1m
        simpa using h1m
      · simp only [Bool.and_eq_true, Bool.or_eq_true] at h1
        rcases h1.2 with h1 | h1
        · rw [nobit] at h1; cases h1
        · unfold chkPair at h1
          rw [hoj, hoi] at h1
          simpa using h1
    have hstp := frontE hT hK hoi (i0 :: rem') fr M L hmem hpair hM ⟨w0, F, w, hr⟩ h
    have hstp2 : StpE lk P T ops M0 S E (mp.contains i) ops[i] fr M L (fun fr' M' L' => keep fr' ∧ CanE lk P T ops M0 S E mp rest ((i0 :: rem').erase i) fr' M' L') :=
      StpE_mono hstp (fun v M' L' _ _ hk => ⟨hkeep i _ fr v hoi hkf, hk⟩) (fun v M' L' _ _ hk => ⟨hkeep i _ fr v hoi hkf, hk⟩)
    refine wpOp_mono ?_ (wpOp_of_StpE (ds := ds) hT hoi hM hr hstp2 (hE fr hkf))
    rintro a w' ⟨fr', M', L', rfl, hM', hr', hkf', hk⟩
    refine ih ((i0 :: rem').erase i) (by rw [List.length_erase_of_mem hmem, hlen]; rfl) _ fr' M' L' w' ?_ hM' hr' hkf' hk
    have hisz' : i < listed.size := by rw [inv.size]; exact hisz
    have hnd : (i0 :: rem').Nodup := hond.sublist inv.sub
    refine ⟨by simp [inv.size], (List.erase_sublist).trans inv.sub, fun j => ?_, fun j h1 h2 => ?_, fun p hp hl j hj hb => ?_⟩
    · rw [hnd.mem_erase_iff, inv.mem j]
      by_cases hji : i = j
      · subst hji
        simp [getD_set_self' hisz']
      · rw [getD_set_ne' hji]
        constructor
        · rintro ⟨_, h⟩; exact h
        · intro h; exact ⟨fun e => hji e.symm, h⟩
    · rw [getD_set_ne' (by omega)]; exact inv.tail j h1 h2
    · by_cases hij : i = j
      · subst hij; exact getD_set_self' hisz' _
      · rw [getD_set_ne' hij]
        by_cases hip : i = p
        · subst hip; exact hbits j hj hb
        · rw [getD_set_ne' hip] at hl
          exact inv.closed p hp hl j hj hb
end

def dstepE (lk : List Nat) (P : Program) (T : Tab) (M0 : Nat → Option Obj) (S : List Atom) (E : List PanicEntry → Hp → Prop) (b : Bool) (o : Oper) (fr : List Value) (M : Nat → Option Obj) (L : List Atom) (K : KD) : Prop :=
  match clsL lk o with
  | .quiet => opF P T o.op fr ⟨M0, S⟩ (fun v _ => dstF fr o.dst v fun fr' => K fr' M L) (fun _ _ => False)
  | .alloc => opF P T o.op fr ⟨M, L⟩ (fun v H' => dstF fr o.dst v fun fr' => K fr' H'.M H'.L) (fun _ _ => False)
  | .call => opF P T o.op fr ⟨M, S ++ L⟩ (fun v H' => ∃ M' L', Weak H' ⟨M', S ++ L'⟩ ∧ MLe M M' ∧ dstF fr o.dst v fun fr' => K fr' M' L') (fun ch H' => ifC b (E ch H') False)
  | .other => False
def memN : Nat → List Nat → Bool
  | _, [] => false
  | a, b :: l => Nat.beq a b || memN a l
theorem memN_eq (a : Nat) : ∀ l : List Nat, memN a l = l.contains a
  | [] => rfl
  | b :: l => by
    simp only [memN, List.contains_cons, memN_eq a l]
    cases h : Nat.beq a b with
    | true => have := Nat.eq_of_beq_eq_true h; subst this; simp
    | false => have := Nat.ne_of_beq_eq_false h; simp [this]
def dopsE (lk : List Nat) (P : Program) (T : Tab) (M0 : Nat → Option Obj) (S : List Atom) (E : List PanicEntry → Hp → Prop) (mp : List Nat) (all : List Oper) (K : KD) : List Nat → KD
  | [], fr, M, L => K fr M L
  | i :: rest, fr, M, L => nthG all i fun o =>
    match o.guard with
    | none => dstepE lk P T M0 S E (memN i mp) o fr M L fun fr' M' L' => dopsE lk P T M0 S E mp all K rest fr' M' L'
    | some (j, want) => guardF all fr j want (fun fr => dstepE lk P T M0 S E (memN i mp) o fr M L fun fr' M' L' => dopsE lk P T M0 S E mp all K rest fr' M' L')
        (fun fr => dstF fr o.dst undef fun fr' => dopsE lk P T M0 S E mp all K rest fr' M L)

section
variable {lk : List Nat} {P : Program} {T : Tab} {ops : Array Oper} {M0 M : Nat → Option Obj} {S L : List Atom} {fr : List Value} {o : Oper} {K K' : KD} {E : List PanicEntry → Hp → Prop}

theorem dstepE_ok (hT : Tab.okFrom P 0 T) {b : Bool} (hw : wants ops o fr = true) (h : dstepE lk P T M0 S E b o fr M L K) (hk : ∀ fr M L, K fr M L → K' fr M L) : StpE lk P T ops M0 S E b o fr M L K' := by
  unfold dstepE at h
  split at h
  · rename_i hc
    obtain ⟨v, h1, h2⟩ := opF_ext (clsL_quiet hc) h
    rw [dstF_iff] at h1
    exact .inl (.inl ⟨v, .inr ⟨hw, hc, h2⟩, hk _ _ _ h1⟩)
  · rename_i hc
    obtain ⟨ak, h1, h2⟩ := opF_alloc (clsL_alloc hc) h
    refine .inl (.inr (.inl ⟨hw, hc, ak, h1, fun g _ => hk _ _ _ ?_⟩))
    have := h2 g
    rw [dstF_iff] at this
    exact this
  · rename_i hc
    cases b with
    | true =>
      refine .inr ⟨rfl, hw, hc, (semOpE_of hT h).mono (fun v H' ⟨M', L', a, b, c⟩ => ⟨M', L', a, b, fun _ => hk _ _ _ ?_⟩) (fun ch H' h => h)⟩
      rw [dstF_iff] at c
      exact c
    | false =>
      refine .inl (.inr (.inr ⟨hw, hc, (semOp_of hT (h := h)).mono fun v H' ⟨M', L', a, b, c⟩ => ⟨M', L', a, b, fun _ => hk _ _ _ ?_⟩⟩))
      rw [dstF_iff] at c
      exact c
  · exact h.elim

theorem dopsE_ok (hT : Tab.okFrom P 0 T) {mp : List Nat} : ∀ (l : List Nat) (fr : List Value) (M : Nat → Option Obj) (L : List Atom), dopsE lk P T M0 S E mp ops.toList K l fr M L →
    (∀ fr M L, K fr M L → K' fr M L) → CanE lk P T ops M0 S E mp K' l fr M L
  | [], fr, M, L, h, hk => hk _ _ _ h
  | i :: l, fr, M, L, h, hk => by
    unfold dopsE at h
    obtain ⟨o, ho, h⟩ := nthG_get h
    have h0 : ops[i]? = some o := by simpa using ho
    have ih := fun fr M L (h : dopsE lk P T M0 S E mp ops.toList K l fr M L) => dopsE_ok hT l fr M L h hk
    unfold CanE
    simp only [h0]
    rw [← memN_eq]
    split at h
    · rename_i hg
      exact dstepE_ok hT (by simp [wants, Region.wanted, hg]) h ih
    · rename_i j want hg
      rcases guardF_ok h with ⟨hy, h⟩ | ⟨hy, h⟩
      · exact dstepE_ok hT (by simp [wants, Region.wanted, hg, hy]) h ih
      · rw [dstF_iff] at h
        exact .inl (.inl ⟨undef, .inl ⟨by simp [wants, Region.wanted, hg, hy], rfl⟩, ih _ _ _ h⟩)

/-- No operation writes one of these slots. -/
def chkKeep (ops : Array Oper) (ks : List Nat) : Bool := ops.toList.all fun o => match o.dst with
  | some d => !memN d ks
  | none => true
theorem getL_set {l : List Value} {d : Nat} {v : Value} : ∀ {ks : List Nat}, memN d ks = false → getL (l.set d v) ks = getL l ks
  | [], _ => rfl
  | k :: ks, h => by
    simp only [memN, Bool.or_eq_false_iff] at h
    have hne := Nat.ne_of_beq_eq_false h.1
    simp only [getL, getL_set h.2]
    rw [List.getD_eq_getElem?_getD, List.getD_eq_getElem?_getD, List.getElem?_set_ne hne]

/-- A statement whose order is open and in which the operations of 'mp' may panic; ks: slots that it leaves alone. -/
theorem awp_drawE (hT : Tab.okFrom P 0 T) (hm : P.follows .mixedOrders = true) {id : Nat} {Q : Post} {ds : List Deferred} {H : Hp} (n : Nat) (ord mp ks : List Nat)
    (hchk : (chkD [] ops n ord && pairB (fun j i => Nat.testBit ((masksL ops n []).getD i 0) j || !mp.contains j) ord && chkKeep ops ks) = true) (M0 : Nat → Option Obj) (S L0 : List Atom) (hw : Weak H ⟨M0, S ++ L0⟩)
    (E : List PanicEntry → Hp → Prop) (hE : ∀ fr', getL fr' ks = getL fr ks → ∀ ch H', E ch H' → Q (.panic ch) fr' ds H')
    (h : dopsE [] P T M0 S E mp ops.toList (fun fr M L => ∃ H2, Weak ⟨M, S ++ L⟩ H2 ∧ opsF P T ops.toList Q (ops.toList.drop n) fr ds H2) ord fr M0 L0) : AWp P (.region id ops true) Q fr ds H := by
  refine awp_mk fun w0 F w hr => ?_
  have hr1 := (hw w0 F w hr).drew
  refine wp_region_any hm ?_
  simp only [Bool.and_eq_true] at hchk
  obtain ⟨⟨hchk, hmp⟩, hks⟩ := hchk
  obtain ⟨inv, hol, hn⟩ := start_inv hchk
  have hcan := dopsE_ok (lk := []) (ops := ops) (K' := fun fr M L => ∃ H2, Weak ⟨M, S ++ L⟩ H2 ∧ opsF P T ops.toList Q (ops.toList.drop n) fr ds H2) hT ord fr M0 L0 h (fun fr M L h => h)
  have hfin := any_of_CanE (F := F) (ds := ds) (Q' := liftQ w0 F Q) (w0 := w0) hT hchk hmp (keep := fun fr' => getL fr' ks = getL fr ks) (fun i o fr' v ho hk => by
      rw [← hk]
      unfold chkKeep at hks
      rw [List.all_eq_true] at hks
      have := hks o (by simpa using List.mem_of_getElem? (l := ops.toList) (i := i) (by simpa using ho))
      cases hd : o.dst with
      | none => rfl
      | some d =>
        rw [hd] at this
        exact getL_set (by simpa using this))
    (S := S) (M0 := M0) (rest := fun fr M L => ∃ H2, Weak ⟨M, S ++ L⟩ H2 ∧ opsF P T ops.toList Q (ops.toList.drop n) fr ds H2) (E := E)
    (fun fr' hk ch H' w' hr' he => ⟨fr', H', rfl, hr', hE fr' hk ch H' he⟩)
    (fun fr M L L' hp ⟨H2, h1, h2⟩ => ⟨H2, (Weak.perm (hp.symm.append_left S)).trans h1, h2⟩)
    (fun fr M L w hM hr ⟨H2, h1, h⟩ => wpList_of hT _ fr ds _ w h (h1 _ _ _ hr))
    ord (Array.replicate ops.size false) fr M0 L0 _ inv (MLe.refl M0) hr1 rfl hcan
  rw [hol, show n + (ops.size - n) = ops.size by omega] at hfin
  exact hfin
end
end Go.Proofs.Ytpblnfldhicfgaa.A
