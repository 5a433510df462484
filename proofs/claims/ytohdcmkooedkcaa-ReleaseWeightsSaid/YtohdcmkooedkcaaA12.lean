/- How a statement whose order Go leaves open is walked: once, in the order of the text. -/
import Derived.Test.YtohdcmkooedkcaaA11
namespace Go.Proofs.Ytohdcmkooedkcaa.A
open Go Go.RowKit
set_option linter.unusedVariables false
set_option linter.unusedSimpArgs false

def dstepF (lk : List Nat) (P : Program) (T : Tab) (M0 : Nat → Option Obj) (S : List Atom) (o : Oper) (fr : List Value) (M : Nat → Option Obj) (L : List Atom) (K : KD) : Prop :=
  match clsL lk o with
  | .quiet => opF P T o.op fr ⟨M0, S⟩ (fun v _ => dstF fr o.dst v fun fr' => K fr' M L) (fun _ _ => False)
  | .alloc => opF P T o.op fr ⟨M, L⟩ (fun v H' => dstF fr o.dst v fun fr' => K fr' H'.M H'.L) (fun _ _ => False)
  | .call => opF P T o.op fr ⟨M, S ++ L⟩ (fun v H' => ∃ M' L', Weak H' ⟨M', S ++ L'⟩ ∧ MLe M M' ∧ dstF fr o.dst v fun fr' => K fr' M' L') (fun _ _ => False)
  | .other => False
def dopsF (lk : List Nat) (P : Program) (T : Tab) (M0 : Nat → Option Obj) (S : List Atom) (all : List Oper) (K : KD) : List Nat → KD
  | [], fr, M, L => K fr M L
  | i :: rest, fr, M, L => nthG all i fun o =>
    match o.guard with
    | none => dstepF lk P T M0 S o fr M L fun fr' M' L' => dopsF lk P T M0 S all K rest fr' M' L'
    | some (j, want) => guardF all fr j want (fun fr => dstepF lk P T M0 S o fr M L fun fr' M' L' => dopsF lk P T M0 S all K rest fr' M' L')
        (fun fr => dstF fr o.dst undef fun fr' => dopsF lk P T M0 S all K rest fr' M L)

section
variable {lk : List Nat} {P : Program} {T : Tab} {ops : Array Oper} {M0 M : Nat → Option Obj} {S L : List Atom} {fr : List Value} {o : Oper} {K K' : KD}

theorem dstepF_ok (hT : Tab.okFrom P 0 T) (hw : wants ops o fr = true) (h : dstepF lk P T M0 S o fr M L K) (hk : ∀ fr M L, K fr M L → K' fr M L) : Stp lk P T ops M0 S o fr M L K' := by
  unfold dstepF at h
  split at h
  · rename_i hc
    obtain ⟨v, h1, h2⟩ := opF_ext (clsL_quiet hc) h
    rw [dstF_iff] at h1
    exact .inl ⟨v, .inr ⟨hw, hc, h2⟩, hk _ _ _ h1⟩
  · rename_i hc
    obtain ⟨ak, h1, h2⟩ := opF_alloc (clsL_alloc hc) h
    refine .inr (.inl ⟨hw, hc, ak, h1, fun g _ => hk _ _ _ ?_⟩)
    have := h2 g
    rw [dstF_iff] at this
    exact this
  · rename_i hc
    refine .inr (.inr ⟨hw, hc, (semOp_of hT h).mono fun v H' ⟨M', L', a, b, c⟩ => ⟨M', L', a, b, fun _ => hk _ _ _ ?_⟩⟩)
    rw [dstF_iff] at c
    exact c
  · exact h.elim

theorem dopsF_ok (hT : Tab.okFrom P 0 T) : ∀ (l : List Nat) (fr : List Value) (M : Nat → Option Obj) (L : List Atom), dopsF lk P T M0 S ops.toList K l fr M L →
    (∀ fr M L, K fr M L → K' fr M L) → Can lk P T ops M0 S K' l fr M L
  | [], fr, M, L, h, hk => hk _ _ _ h
  | i :: l, fr, M, L, h, hk => by
    unfold dopsF at h
    obtain ⟨o, ho, h⟩ := nthG_get h
    have h0 : ops[i]? = some o := by simpa using ho
    have ih := fun fr M L h => dopsF_ok hT l fr M L h hk
    unfold Can
    simp only [h0]
    split at h
    · rename_i hg
      exact dstepF_ok hT (by simp [wants, Region.wanted, hg]) h ih
    · rename_i j want hg
      rcases guardF_ok h with ⟨hy, h⟩ | ⟨hy, h⟩
      · exact dstepF_ok hT (by simp [wants, Region.wanted, hg, hy]) h ih
      · rw [dstF_iff] at h
        exact .inl ⟨undef, .inl ⟨by simp [wants, Region.wanted, hg, hy], rfl⟩, ih _ _ _ h⟩

theorem RepF.drew {w0 w : World} {F : List Atom} {H : Hp} (h : RepF w0 F H w) : RepF w0 F H { w with drawn := w.drawn + 1 } := Rep.keep h (Keeps.drew _ w)

theorem start_inv {n : Nat} {ord : List Nat} (hchk : chkD lk ops n ord = true) : InvD ops n ord ord (Array.replicate ops.size false) ∧ ord.length = n ∧ n ≤ ops.size := by
  unfold chkD at hchk
  simp only [Bool.and_eq_true, decide_eq_true_eq] at hchk
  obtain ⟨⟨⟨⟨⟨⟨⟨⟨⟨⟨hn, hn0⟩, hol⟩, hoall⟩, hoc⟩, hpairs⟩, hdeps⟩, hself0⟩, hmask⟩, htail⟩, hseq⟩ := hchk
  refine ⟨⟨by simp, List.Sublist.refl _, fun i => ?_, fun i h1 h2 => by simp [Array.getD, h2], fun i hi hl => ?_⟩, Nat.eq_of_beq_eq_true hol, hn⟩
  · constructor
    · intro hi
      rw [List.all_eq_true] at hoall
      have hlt : i < n := by simpa using hoall i hi
      exact ⟨hlt, by simp [Array.getD, show i < ops.size by omega]⟩
    · rintro ⟨h1, _⟩
      have := allB_spec hoc h1
      simpa using this
  · simp [Array.getD, show i < ops.size by omega] at hl

/-- A statement whose order is open: its first n operations may come in many orders ('ord' is one of them), the others one after the other. S: what none of them changes. -/
theorem awp_drawL (hT : Tab.okFrom P 0 T) (hm : P.follows .mixedOrders = true) {id : Nat} {Q : Post} {ds : List Deferred} {H : Hp} (n : Nat) (ord : List Nat) (hchk : chkD lk ops n ord = true) (M0 : Nat → Option Obj) (S L0 : List Atom) (hw : Weak H ⟨M0, S ++ L0⟩)
    (h : dopsF lk P T M0 S ops.toList (fun fr M L => ∃ H2, Weak ⟨M, S ++ L⟩ H2 ∧ opsF P T ops.toList Q (ops.toList.drop n) fr ds H2) ord fr M0 L0) : AWp P (.region id ops true) Q fr ds H := by
  refine awp_mk fun w0 F w hr => ?_
  have hr1 := (hw w0 F w hr).drew
  refine wp_region_any hm ?_
  obtain ⟨inv, hol, hn⟩ := start_inv hchk
  have hcan := dopsF_ok (ops := ops) (K' := fun fr M L => ∃ H2, Weak ⟨M, S ++ L⟩ H2 ∧ opsF P T ops.toList Q (ops.toList.drop n) fr ds H2) hT ord fr M0 L0 h (fun fr M L h => h)
  have hfin := any_of_Can (F := F) (ds := ds) (Q' := liftQ w0 F Q) (w0 := w0) hT hchk (S := S) (M0 := M0) (rest := fun fr M L => ∃ H2, Weak ⟨M, S ++ L⟩ H2 ∧ opsF P T ops.toList Q (ops.toList.drop n) fr ds H2)
    (fun fr M L L' hp ⟨H2, h1, h2⟩ => ⟨H2, (Weak.perm (hp.symm.append_left S)).trans h1, h2⟩)
    (fun fr M L w hM hr ⟨H2, h1, h⟩ => wpList_of hT _ fr ds _ w h (h1 _ _ _ hr))
    ord (Array.replicate ops.size false) fr M0 L0 _ inv (MLe.refl M0) hr1 hcan
  rw [hol, show n + (ops.size - n) = ops.size by omega] at hfin
  exact hfin
theorem awp_draw (hT : Tab.okFrom P 0 T) (hm : P.follows .mixedOrders = true) {id : Nat} {Q : Post} {ds : List Deferred} {H : Hp} (n : Nat) (ord : List Nat) (hchk : chkD [] ops n ord = true) (M0 : Nat → Option Obj) (S L0 : List Atom) (hw : Weak H ⟨M0, S ++ L0⟩)
    (h : dopsF [] P T M0 S ops.toList (fun fr M L => ∃ H2, Weak ⟨M, S ++ L⟩ H2 ∧ opsF P T ops.toList Q (ops.toList.drop n) fr ds H2) ord fr M0 L0) : AWp P (.region id ops true) Q fr ds H := awp_drawL (lk := []) hT hm n ord hchk M0 S L0 hw h
end

/-! The same where the heap stays as it is: reads, and calls that give it back. -/
def dstepQ (lk : List Nat) (P : Program) (T : Tab) (H : Hp) (o : Oper) (fr : List Value) (K : List Value → Prop) : Prop :=
  match clsL lk o with
  | .quiet => opF P T o.op fr H (fun v _ => dstF fr o.dst v K) (fun _ _ => False)
  | .call => opF P T o.op fr H (fun v H' => Weak H' H ∧ dstF fr o.dst v K) (fun _ _ => False)
  | _ => False
def dopsQ (lk : List Nat) (P : Program) (T : Tab) (H : Hp) (all : List Oper) (K : List Value → Prop) : List Nat → List Value → Prop
  | [], fr => K fr
  | i :: rest, fr => nthG all i fun o =>
    match o.guard with
    | none => dstepQ lk P T H o fr fun fr' => dopsQ lk P T H all K rest fr'
    | some (j, want) => guardF all fr j want (fun fr => dstepQ lk P T H o fr fun fr' => dopsQ lk P T H all K rest fr')
        (fun fr => dstF fr o.dst undef fun fr' => dopsQ lk P T H all K rest fr')
section
variable {lk : List Nat} {P : Program} {T : Tab} {ops : Array Oper} {H : Hp} {fr : List Value} {o : Oper}
theorem dstepQ_ok (hT : Tab.okFrom P 0 T) {K : List Value → Prop} {K' : KD} (hw : wants ops o fr = true) (h : dstepQ lk P T H o fr K) (hk : ∀ fr, K fr → K' fr H.M []) : Stp lk P T ops H.M H.L o fr H.M [] K' := by
  unfold dstepQ at h
  split at h
  · rename_i hc
    obtain ⟨v, h1, h2⟩ := opF_ext (clsL_quiet hc) h
    rw [dstF_iff] at h1
    exact .inl ⟨v, .inr ⟨hw, hc, h2⟩, hk _ h1⟩
  · rename_i hc
    refine .inr (.inr ⟨hw, hc, ?_⟩)
    rw [List.append_nil]
    refine (semOp_of hT h).mono fun v H' ⟨hwk, h2⟩ => ⟨H.M, [], by rw [List.append_nil]; exact hwk, MLe.refl _, fun _ => hk _ ?_⟩
    rw [dstF_iff] at h2
    exact h2
  · exact h.elim
theorem dopsQ_ok (hT : Tab.okFrom P 0 T) {K : List Value → Prop} {K' : KD} : ∀ (l : List Nat) (fr : List Value), dopsQ lk P T H ops.toList K l fr →
    (∀ fr, K fr → K' fr H.M []) → Can lk P T ops H.M H.L K' l fr H.M []
  | [], fr, h, hk => hk _ h
  | i :: l, fr, h, hk => by
    unfold dopsQ at h
    obtain ⟨o, ho, h⟩ := nthG_get h
    have h0 : ops[i]? = some o := by simpa using ho
    have ih := fun fr h => dopsQ_ok hT l fr h hk
    unfold Can
    simp only [h0]
    split at h
    · rename_i hg
      exact dstepQ_ok hT (by simp [wants, Region.wanted, hg]) h ih
    · rename_i j want hg
      rcases guardF_ok h with ⟨hy, h⟩ | ⟨hy, h⟩
      · exact dstepQ_ok hT (by simp [wants, Region.wanted, hg, hy]) h ih
      · rw [dstF_iff] at h
        exact .inl ⟨undef, .inl ⟨by simp [wants, Region.wanted, hg, hy], rfl⟩, ih _ h⟩
theorem awp_drawQ (hT : Tab.okFrom P 0 T) (hm : P.follows .mixedOrders = true) {id : Nat} {Q : Post} {ds : List Deferred} (n : Nat) (hchk : chkD [] ops n (List.range n) = true)
    (h : dopsQ [] P T H ops.toList (fun fr => opsF P T ops.toList Q (ops.toList.drop n) fr ds H) (List.range n) fr) : AWp P (.region id ops true) Q fr ds H := by
  refine awp_mk fun w0 F w hr => ?_
  refine wp_region_any hm ?_
  obtain ⟨inv, hol, hn⟩ := start_inv hchk
  have hcan := dopsQ_ok (lk := []) (ops := ops) (K' := fun fr M L => M = H.M ∧ L = [] ∧ opsF P T ops.toList Q (ops.toList.drop n) fr ds H) hT (List.range n) fr h (fun fr h => ⟨rfl, rfl, h⟩)
  have hr1 : RepF w0 F ⟨H.M, H.L ++ []⟩ { w with drawn := w.drawn + 1 } := by rw [List.append_nil]; exact hr.drew
  have hfin := any_of_Can (F := F) (ds := ds) (Q' := liftQ w0 F Q) (w0 := w0) hT hchk (S := H.L) (M0 := H.M) (rest := fun fr M L => M = H.M ∧ L = [] ∧ opsF P T ops.toList Q (ops.toList.drop n) fr ds H)
    (fun fr M L L' hp ⟨h1, h2, h3⟩ => ⟨h1, by subst h2; exact List.nil_perm.1 hp, h3⟩)
    (fun fr M L w hM hr ⟨h1, h2, h⟩ => by subst h1 h2; rw [List.append_nil] at hr; exact wpList_of hT _ fr ds _ w h hr)
    (List.range n) (Array.replicate ops.size false) fr H.M [] _ inv (MLe.refl H.M) hr1 hcan
  rw [hol, show n + (ops.size - n) = ops.size by omega] at hfin
  exact hfin
end

/-! ### Facts that pieces bear -/
section
variable {lk : List Nat} {P : Program} {H : Hp} {f : FuncId} {args : List Value} {R : Ending → Hp → Prop} {c : Code} {Q : Post} {fr : List Value} {ds : List Deferred}

/-- What holds in each world that is told may be used. -/
theorem acalls_fact {p : Prop} (hp : ∀ w0 F w, RepF w0 F H w → p) (h1 : ∃ fn, P.funcs[f]? = some fn ∧ (fn.name == "runtime.NumGoroutine") = false ∧ fn.body.isNone = false) (h : p → ACalls P f args H R) : ACalls P f args H R := by
  obtain ⟨fn, a, b, d⟩ := h1
  exact acalls_mk a b d fun w0 F w hr => (acalls_ok (h (hp w0 F w hr))).2 w0 F w hr
theorem awp_fact {p : Prop} (hp : ∀ w0 F w, RepF w0 F H w → p) (h : p → AWp P c Q fr ds H) : AWp P c Q fr ds H :=
  awp_mk fun w0 F w hr => awp_ok (h (hp w0 F w hr)) hr
theorem row_fact {i : Nat} {v : Value} {e : TypeId} {sz : Nat} {xs : List Value} (hi : H.L[i]? = some (.row v e sz xs)) : ∀ w0 F w, RepF w0 F H w → RowVal v sz xs := fun w0 F w hr =>
  Atom.holds_rowVal (hr.holds _ (List.mem_append_left _ (List.mem_of_getElem? hi)))
end

/-! ### The whole -/
theorem calls_of_acalls {P : Program} {f : FuncId} {args : List Value} {w : World} {R : Ending → Prop} (h : ACalls P f args ⟨fun g => w.heap[g]?, []⟩ fun e _ => R e) :
    Calls P f args.toArray w fun e w' => R e ∧ Below w.heap.size w w' := by
  have hr : RepF w [] ⟨fun g => w.heap[g]?, []⟩ w := ⟨Below.refl _ _, fun g o h => h, (by intro a ha; cases ha), (by intro a ha; cases ha), .nil⟩
  exact ((acalls_ok h).2 w [] w hr).mono fun e w' ⟨H', hr', hR⟩ => ⟨hR, hr'.below⟩

end Go.Proofs.Ytohdcmkooedkcaa.A
