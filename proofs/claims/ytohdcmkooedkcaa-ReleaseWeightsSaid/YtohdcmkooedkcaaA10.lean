/- A statement whose order Go leaves open: one walk in the order of the text serves every order, where what is not ordered gets along. -/
import Derived.Test.YtohdcmkooedkcaaA9
import Derived.StillTail
namespace Go.Proofs.Ytohdcmkooedkcaa.A
open Go Go.RowKit
set_option linter.unusedVariables false
set_option linter.unusedSimpArgs false

def MLe (M M' : Nat → Option Obj) : Prop := ∀ g o, M g = some o → M' g = some o
theorem MLe.refl (M : Nat → Option Obj) : MLe M M := fun _ _ h => h
theorem MLe.trans {A B C : Nat → Option Obj} (h : MLe A B) (k : MLe B C) : MLe A C := fun g o hg => k g o (h g o hg)
theorem Weak.shrinkM {M M' : Nat → Option Obj} {L : List Atom} (h : MLe M M') : Weak ⟨M', L⟩ ⟨M, L⟩ := fun w0 F w hr =>
  ⟨hr.below, fun g o hg => hr.M g o (h g o hg), hr.holds, fun a ha g hg => ⟨(hr.low a ha g hg).1, by
    have h1 : M' g = none := (hr.low a ha g hg).2
    cases hm : M g with
    | none => exact hm
    | some o => have := h g o hm; rw [h1] at this; cases this⟩, hr.apart⟩
theorem Weak.consAny {H H' : Hp} {a : Atom} (h : Weak H H') : Weak ⟨H.M, a :: H.L⟩ ⟨H'.M, a :: H'.L⟩ := by
  intro w0 F w hr
  have h1 : Rep w0 ⟨H.M, H.L ++ (a :: F)⟩ w := Rep.perm hr (List.perm_middle (l₁ := H.L) (l₂ := F) (a := a)).symm
  exact Rep.perm (h w0 (a :: F) w h1) (List.perm_middle (l₁ := H'.L) (l₂ := F) (a := a))

inductive AK where
  | cells (e : TypeId) (cs : List Value)
  | row (e : TypeId) (sz n : Nat) (cs : List Value)
  | map
def AK.val : AK → Nat → Value
  | .cells _ _, g => .pointer (some ⟨g, 0, none⟩)
  | .row _ _ n _, g => .slice (some ⟨g, 0, none⟩) n n
  | .map, g => .map (some g)
def AK.atom : AK → Nat → Atom
  | .cells e cs, g => .cells g e cs
  | .row e sz n cs, g => .row (.slice (some ⟨g, 0, none⟩) n n) e sz cs
  | .map, g => .obj g (imapObj [])
theorem AK.foot (ak : AK) (g : Nat) : (ak.atom g).foot = some g := by cases ak <;> rfl
/-- Which piece an operation makes. -/
def AKof (T : Tab) (fr : List Value) : Op → AK → Prop
  | .alloc e, ak => ∃ i : TI, T[e]? = some (some i) ∧ ak = .cells e i.z
  | .box e x, ak => ak = .cells e (evL fr x).cells.toList
  | .buildSlice t len parts, ak => ∃ (i : TI) (e esz eb : Nat) (ez cs : List Value), T[t]? = some (some i) ∧ i.d = .slice e esz eb ez ∧ Nat.ble (len * esz) 16777216 = true ∧
      (∀ K : List Value → Prop, K cs → fillF (rowPlace esz) (repZ len ez) (parts.toList.map fun p => (p.1, evL fr p.2)) K) ∧ ak = .row e esz len cs
  | .makeSlice t l c, ak => ∃ (i : TI) (e esz eb m : Nat) (ez : List Value) (k k' : IntKind), T[t]? = some (some i) ∧ i.d = .slice e esz eb ez ∧ evL fr l = .int k m ∧ evL fr c = .int k' m ∧ m * eb ≤ 140737488355328 ∧ m ≤ maxLen ∧
      ak = .row e esz m (repZ m ez)
  | .makeMap t none, ak => ∃ i : TI, T[t]? = some (some i) ∧ ak = .map
  | _, _ => False

/-- The class of an operation in such a statement; lk: results of reads that are taken as calls. -/
def clsL (lk : List Nat) (o : Oper) : Cls :=
  match clsOf o.op, o.dst with
  | .quiet, some d => if lk.contains d then .call else .quiet
  | c, _ => c
theorem clsL_quiet {lk : List Nat} {o : Oper} (h : clsL lk o = .quiet) : clsOf o.op = .quiet := by
  unfold clsL at h
  split at h
  · assumption
  · assumption
theorem clsL_alloc {lk : List Nat} {o : Oper} (h : clsL lk o = .alloc) : clsOf o.op = .alloc := by
  unfold clsL at h
  split at h
  · split at h <;> cases h
  · assumption
theorem clsL_call {lk : List Nat} {o : Oper} (h : clsL lk o = .call) : clsOf o.op = .call ∨ clsOf o.op = .quiet := by
  unfold clsL at h
  split at h
  · exact .inr (by assumption)
  · exact .inl h
section
variable {P : Program} {T : Tab} {H : Hp} {fr fr' : List Value} {K K2 : Value → Hp → Prop} {E : List PanicEntry → Hp → Prop} {op : Op}

theorem opF_alloc (hc : clsOf op = .alloc) (h : opF P T op fr H K E) : ∃ ak, AKof T fr op ak ∧ ∀ g, K (ak.val g) ⟨H.M, ak.atom g :: H.L⟩ := by
  cases op <;> try (cases hc; done)
  case alloc e => obtain ⟨i, hi, h⟩ := tyF_get h; exact ⟨.cells e i.z, ⟨i, hi, rfl⟩, h⟩
  case box e x => simp only [opF, evF_iff, cellsF_iff] at h; exact ⟨_, rfl, h⟩
  case buildSlice t len parts =>
    simp only [opF, evpF_iff] at h
    obtain ⟨i, hi, h⟩ := tyF_get h
    split at h
    · rename_i e esz eb ez hd
      rcases ifC_out h with ⟨hle, h⟩ | ⟨_, h⟩
      · rw [repF_iff] at h
        obtain ⟨cs, hk, hall⟩ := fillF_ext (rowPlace_ext esz) _ _ _ h
        exact ⟨.row e esz len cs, ⟨i, e, esz, eb, ez, cs, hi, hd, hle, hall, rfl⟩, hk⟩
      · exact h.elim
    · exact h.elim
  case makeSlice t l c =>
    simp only [opF, evF_iff] at h
    obtain ⟨i, hi, h⟩ := tyF_get h
    split at h
    · rename_i e esz eb ez k1 n k2 n' hd hl hc'
      obtain ⟨m, rfl, rfl, hb, hm, hk⟩ := h
      exact ⟨.row e esz m (repZ m ez), ⟨i, e, esz, eb, m, ez, _, _, hi, hd, hl, hc', hb, hm, rfl⟩, hk⟩
    · exact h.elim
  case makeMap t r =>
    cases r with
    | some r => exact (show False from h).elim
    | none => obtain ⟨i, hi, h⟩ := tyF_get h; exact ⟨.map, ⟨i, hi, rfl⟩, h⟩
  case call c =>
    obtain ⟨callee, args, ts⟩ := c
    cases callee with
    | builtin b => cases b <;> cases hc
    | value f => cases hc
    | invoke r m => cases hc

theorem opF_alloc_mk (ak : AK) (h : AKof T fr op ak) (hk : ∀ g, K (ak.val g) ⟨H.M, ak.atom g :: H.L⟩) : opF P T op fr H K E := by
  unfold AKof at h
  split at h
  · obtain ⟨i, hi, rfl⟩ := h; exact tyF_mk hi hk
  · subst h; simp only [opF, evF_iff, cellsF_iff]; exact hk
  · obtain ⟨i, e, esz, eb, ez, cs, hi, hd, hle, hall, rfl⟩ := h
    simp only [opF, evpF_iff]
    refine tyF_mk hi ?_
    simp only [hd]
    refine ifC_mk (.inl ⟨hle, ?_⟩)
    rw [repF_iff]
    exact hall _ hk
  · obtain ⟨i, e, esz, eb, m, ez, k, k', hi, hd, hl, hc, hb, hm, rfl⟩ := h
    simp only [opF, evF_iff, hl, hc]
    refine tyF_mk hi ?_
    simp only [hd]
    exact ⟨m, rfl, rfl, hb, hm, hk⟩
  · obtain ⟨i, hi, rfl⟩ := h; exact tyF_mk hi hk
  · exact h.elim

theorem AKof_fun {ak ak' : AK} (h : AKof T fr op ak) (h' : AKof T fr op ak') : ak = ak' := by
  unfold AKof at h h'
  split at h
  · obtain ⟨i, hi, rfl⟩ := h; obtain ⟨j, hj, rfl⟩ := h'; rw [hi] at hj; simp at hj; subst hj; rfl
  · rw [h, h']
  · obtain ⟨i, e, esz, eb, ez, cs, hi, hd, hle, hall, rfl⟩ := h
    obtain ⟨j, e', esz', eb', ez', cs', hj, hd', hle', hall', rfl⟩ := h'
    rw [hi] at hj; simp at hj; subst hj
    rw [hd] at hd'; simp at hd'
    obtain ⟨rfl, rfl, rfl, rfl⟩ := hd'
    have : cs' = cs := by
      obtain ⟨c1, h1, h2⟩ := fillF_ext (rowPlace_ext esz) _ _ _ (hall (· = cs) rfl)
      obtain ⟨c2, h3, h4⟩ := fillF_ext (rowPlace_ext esz) _ _ _ (hall' (· = cs') rfl)
      subst h1 h3
      obtain ⟨a1, f1, _, k1⟩ := fillF_ok (pl := fun i => some (i * esz, esz)) (fun i K' h => ⟨_, rfl, h⟩) _ _ _ (hall (· = c1) rfl)
      obtain ⟨a2, f2, _, k2⟩ := fillF_ok (pl := fun i => some (i * esz, esz)) (fun i K' h => ⟨_, rfl, h⟩) _ _ _ (hall' (· = c2) rfl)
      subst k1 k2
      rw [f1] at f2
      simpa using f2.symm
    rw [this]
  · obtain ⟨i, e, esz, eb, m, ez, k, k', hi, hd, hl, hc, hb, hm, rfl⟩ := h
    obtain ⟨j, e', esz', eb', m', ez', q, q', hj, hd', hl', hc', hb', hm', rfl⟩ := h'
    rw [hi] at hj; simp at hj; subst hj
    rw [hd] at hd'; simp at hd'
    obtain ⟨rfl, rfl, rfl, rfl⟩ := hd'
    rw [hl] at hl'; simp at hl'
    obtain ⟨_, e2⟩ := hl'
    obtain rfl : m = m' := by omega
    rfl
  · obtain ⟨i, hi, rfl⟩ := h; obtain ⟨j, hj, rfl⟩ := h'; rfl
  · exact h.elim

theorem opF_congr (h : ∀ x ∈ op.operands, evL fr x = evL fr' x) (ho : opF P T op fr H K E) : opF P T op fr' H K E := by
  have pairs : ∀ ps : Array (Nat × Operand), (∀ x ∈ (ps.toList.map (·.2)), evL fr x = evL fr' x) → (ps.toList.map fun p => (p.1, evL fr p.2)) = (ps.toList.map fun p => (p.1, evL fr' p.2)) := fun ps hp =>
    List.map_congr_left fun p hm => by rw [hp p.2 (List.mem_map.2 ⟨p, hm, rfl⟩)]
  have arr : ∀ as : Array Operand, (∀ x ∈ as, evL fr x = evL fr' x) → as.toList.map (evL fr) = as.toList.map (evL fr') := fun as hp => List.map_congr_left fun x hx => hp x (by simpa using hx)
  have opt : ∀ o : Option Operand, (∀ x ∈ o.toArray, evL fr x = evL fr' x) → o.map (evL fr) = o.map (evL fr') := fun o hp => by
    cases o with
    | none => rfl
    | some x => simp [hp x (by simp)]
  cases op <;> simp only [Op.operands] at h <;> try (exact (show False from ho).elim)
  case move x => simp only [opF, evF_iff] at ho ⊢; rw [← h x (by simp)]; exact ho
  case assign x => simp only [opF, evF_iff] at ho ⊢; rw [← h x (by simp)]; exact ho
  case pick c x y => simp only [opF, evF_iff] at ho ⊢; rw [← h c (by simp), ← h x (by simp), ← h y (by simp)]; exact ho
  case alloc e => exact ho
  case box e x => simp only [opF, evF_iff] at ho ⊢; rw [← h x (by simp)]; exact ho
  case build t ps => simp only [opF, evpF_iff] at ho ⊢; rw [← pairs ps fun x hx => h x (by simpa using hx)]; exact ho
  case buildSlice t n ps => simp only [opF, evpF_iff] at ho ⊢; rw [← pairs ps fun x hx => h x (by simpa using hx)]; exact ho
  case load t x => simp only [opF, evF_iff] at ho ⊢; rw [← h x (by simp)]; exact ho
  case store t x v => simp only [opF, evF_iff] at ho ⊢; rw [← h x (by simp), ← h v (by simp)]; exact ho
  case nilCheck x => simp only [opF, evF_iff] at ho ⊢; rw [← h x (by simp)]; exact ho
  case binOp op t x y ty => simp only [opF, evF_iff] at ho ⊢; rw [← h x (by simp), ← h y (by simp)]; exact ho
  case unOp op t x => simp only [opF, evF_iff] at ho ⊢; rw [← h x (by simp)]; exact ho
  case convert s d x => simp only [opF, evF_iff] at ho ⊢; rw [← h x (by simp)]; exact ho
  case makeInterface t x => simp only [opF, evF_iff] at ho ⊢; rw [← h x (by simp)]; exact ho
  case makeFunc fn a b => simp only [opF, evsF_iff] at ho ⊢; rw [← arr a fun x hx => h x (by simp [hx]), ← arr b fun x hx => h x (by simp [hx])]; exact ho
  case makeMap t r => cases r <;> exact ho
  case makeSlice t l c => simp only [opF, evF_iff] at ho ⊢; rw [← h l (by simp), ← h c (by simp)]; exact ho
  case slice t x lo hi mx =>
    simp only [opF, evF_iff, evOptF_iff] at ho ⊢
    rw [← h x (by simp), ← opt lo fun x hx => h x (by simp [hx]), ← opt hi fun x hx => h x (by simp [hx]), ← opt mx fun x hx => h x (by simp [hx])]; exact ho
  case fieldAddr t x f => simp only [opF, evF_iff] at ho ⊢; rw [← h x (by simp)]; exact ho
  case field t x f => simp only [opF, evF_iff] at ho ⊢; rw [← h x (by simp)]; exact ho
  case indexAddr t x i => simp only [opF, evF_iff] at ho ⊢; rw [← h x (by simp), ← h i (by simp)]; exact ho
  case index t x i => simp only [opF, evF_iff] at ho ⊢; rw [← h x (by simp), ← h i (by simp)]; exact ho
  case lookup t m k ok => simp only [opF, evF_iff] at ho ⊢; rw [← h m (by simp), ← h k (by simp)]; exact ho
  case mapUpdate t m k v => simp only [opF, evF_iff] at ho ⊢; rw [← h m (by simp), ← h k (by simp), ← h v (by simp)]; exact ho
  case typeAssert x xt a ok => simp only [opF, evF_iff] at ho ⊢; rw [← h x (by simp)]; exact ho
  case extract x i => simp only [opF, evF_iff] at ho ⊢; rw [← h x (by simp)]; exact ho
  case panic x => simp only [opF, evF_iff] at ho ⊢; rw [← h x (by simp)]; exact ho
  case call c =>
    obtain ⟨callee, args, ts⟩ := c
    cases callee with
    | invoke r m => exact (show False from ho).elim
    | value f => simp only [opF, evF_iff, evsF_iff] at ho ⊢; rw [← h f (by simp [Call.operands]), ← arr args fun x hx => h x (by simp [Call.operands, hx])]; exact ho
    | builtin b => simp only [opF, evsF_iff] at ho ⊢; rw [← arr args fun x hx => h x (by simp [Call.operands, hx])]; exact ho

theorem AKof_congr {ak : AK} (h : ∀ x ∈ op.operands, evL fr x = evL fr' x) (ho : AKof T fr op ak) : AKof T fr' op ak := by
  have pairs : ∀ ps : Array (Nat × Operand), (∀ x ∈ (ps.toList.map (·.2)), evL fr x = evL fr' x) → (ps.toList.map fun p => (p.1, evL fr p.2)) = (ps.toList.map fun p => (p.1, evL fr' p.2)) := fun ps hp =>
    List.map_congr_left fun p hm => by rw [hp p.2 (List.mem_map.2 ⟨p, hm, rfl⟩)]
  cases op <;> simp only [Op.operands] at h <;> try (exact (show False from ho).elim)
  case alloc e => exact ho
  case box e x => simp only [AKof] at ho ⊢; rw [← h x (by simp)]; exact ho
  case buildSlice t n ps => simp only [AKof] at ho ⊢; rw [← pairs ps fun x hx => h x (by simpa using hx)]; exact ho
  case makeSlice t l c => simp only [AKof] at ho ⊢; rw [← h l (by simp), ← h c (by simp)]; exact ho
  case makeMap t r => cases r with
    | none => exact ho
    | some r => exact (show False from ho).elim

end

/-! ### Operations that act: calls, stores, appends -/
def SemOp (P : Program) (o : Oper) (fr : List Value) (H : Hp) (K : Value → Hp → Prop) : Prop :=
  ∀ w0 F w, RepF w0 F H w → OpRes P w0 F K (fun _ _ => False) ((execOp (evL fr) o).run P w)
section
variable {P : Program} {T : Tab} {H : Hp} {fr fr' : List Value} {K K2 : Value → Hp → Prop} {o : Oper}
theorem opRes_mono {w0 : World} {F F' : List Atom} {r : Result Next} (h : OpRes P w0 F K (fun _ _ => False) r) (hk : ∀ v H' w', RepF w0 F H' w' → K v H' → ∃ H'', RepF w0 F' H'' w' ∧ K2 v H'') : OpRes P w0 F' K2 (fun _ _ => False) r := by
  unfold OpRes at h ⊢
  split at h
  · obtain ⟨H', h1, h2⟩ := h; exact hk _ _ _ h1 h2
  · obtain ⟨H', h1, h2⟩ := h; exact hk _ _ _ h1 h2
  · refine Calls.mono h fun e w'' ⟨H', h1, h2⟩ => ?_
    cases e with
    | returned v => exact hk _ _ _ h1 h2
    | panicked ch => exact h2.elim
    | outgrown => exact h2.elim
  · obtain ⟨H', h1, h2⟩ := h; exact h2.elim
  · exact h.elim
theorem semOp_of (hT : Tab.okFrom P 0 T) (h : opF P T o.op fr H K (fun _ _ => False)) : SemOp P o fr H K := fun w0 F w hr => opF_ok hT o fr hr h
theorem SemOp.mono (h : SemOp P o fr H K) (hk : ∀ v H', K v H' → K2 v H') : SemOp P o fr H K2 := fun w0 F w hr => opRes_mono (h w0 F w hr) fun v H' w' h1 h2 => ⟨H', h1, hk v H' h2⟩
theorem SemOp.weak {H1 : Hp} (hw : Weak H H1) (h : SemOp P o fr H1 K) : SemOp P o fr H K := fun w0 F w hr => h w0 F w (hw w0 F w hr)
theorem SemOp.fact {w0 w : World} {F : List Atom} (hr : RepF w0 F H w) (h : SemOp P o fr H K) : ∃ v H' w0 F w', K v H' ∧ RepF w0 F H' w' := by
  have := h w0 F w hr
  unfold OpRes at this
  split at this
  · obtain ⟨H', h1, h2⟩ := this; exact ⟨_, H', w0, F, _, h2, h1⟩
  · obtain ⟨H', h1, h2⟩ := this; exact ⟨_, H', w0, F, _, h2, h1⟩
  · obtain ⟨e, w', fr', ⟨H', h1, h2⟩, _⟩ := this []
    cases e with
    | returned v => exact ⟨_, H', w0, F, _, h2, h1⟩
    | panicked ch => exact h2.elim
    | outgrown => exact h2.elim
  · obtain ⟨H', h1, h2⟩ := this; exact h2.elim
  · exact this.elim
/-- A piece that stands by stays as it is. -/
theorem SemOp.frame {M : Nat → Option Obj} {X : List Atom} (a : Atom) (h : SemOp P o fr ⟨M, X⟩ K) : SemOp P o fr ⟨M, a :: X⟩ (fun v H'' => ∃ H', Weak H'' ⟨H'.M, a :: H'.L⟩ ∧ K v H') := by
  intro w0 F w hr
  have hr' : RepF w0 (a :: F) ⟨M, X⟩ w := Rep.perm hr (List.perm_middle (l₁ := X) (l₂ := F) (a := a)).symm
  exact opRes_mono (h w0 (a :: F) w hr') fun v H' w' h1 h2 => ⟨⟨H'.M, a :: H'.L⟩, Rep.perm h1 (List.perm_middle (l₁ := H'.L) (l₂ := F) (a := a)), H', Weak.refl _, h2⟩
theorem SemOp.congr (hs : ∀ cs b, o.op ≠ .select cs b) (h : ∀ x ∈ o.op.operands, evL fr x = evL fr' x) (ho : SemOp P o fr H K) : SemOp P o fr' H K := fun w0 F w hr => by
  rw [← execOp_congr o hs h]; exact ho w0 F w hr
theorem cls_call_sel {lk : List Nat} (hc : clsL lk o = .call) : ∀ cs b, o.op ≠ .select cs b := fun cs b e => by
  rcases clsL_call hc with h | h <;> rw [e] at h <;> cases h
end

/-! ### One operation of such a statement -/
def wants (ops : Array Oper) (o : Oper) (fr : List Value) : Bool := Region.wanted o (yielded ops fr.toArray)
theorem evL_setD {fr : List Value} {d : Option Tmp} {v : Value} {x : Operand} (h : ∀ t, d = some t → x ≠ .tmp t) : evL (setD fr d v) x = evL fr x := by
  cases d with
  | none => rfl
  | some t =>
    cases x with
    | tmp u =>
      have hne : t ≠ u := fun e => h t rfl (e ▸ rfl)
      simp [evL, setD, List.getD_eq_getElem?_getD, List.getElem?_set_ne hne]
    | _ => rfl
theorem setD_comm {fr : List Value} {d e : Option Tmp} {v u : Value} (h : ∀ t, d = some t → e ≠ some t) : setD (setD fr d v) e u = setD (setD fr e u) d v := by
  cases d with
  | none => rfl
  | some t =>
    cases e with
    | none => rfl
    | some s =>
      have hne : t ≠ s := fun he => h t rfl (he ▸ rfl)
      simp only [setD]
      exact List.set_comm _ _ hne
theorem wants_setD {ops : Array Oper} {o : Oper} {fr : List Value} {d : Option Tmp} {v : Value} (h : ∀ t, d = some t → t ∉ o.looksAt ops) : wants ops o (setD fr d v) = wants ops o fr := by
  have := wanted_put (ops := ops) o ⟨fr.toArray, []⟩ d v h
  rw [put_setD] at this
  exact this
theorem operands_setD {ops : Array Oper} {o : Oper} {fr : List Value} {d : Option Tmp} {v : Value} (h : ∀ t, d = some t → t ∉ o.looksAt ops) : ∀ x ∈ o.op.operands, evL (setD fr d v) x = evL fr x :=
  fun x hx => evL_setD fun t ht hxt => h t ht (by
    subst hxt
    exact List.mem_append_left _ (List.mem_filterMap.2 ⟨.tmp t, by simpa using hx, rfl⟩))

abbrev KD := List Value → (Nat → Option Obj) → List Atom → Prop
def Real (S : List Atom) (M : Nat → Option Obj) (L : List Atom) : Prop := ∃ w0 F w, RepF w0 F ⟨M, S ++ L⟩ w
def QV (P : Program) (T : Tab) (M0 : Nat → Option Obj) (S : List Atom) (op : Op) (fr : List Value) (v : Value) : Prop := opF P T op fr ⟨M0, S⟩ (fun u _ => u = v) (fun _ _ => False)

section
variable (lk : List Nat) (P : Program) (T : Tab) (ops : Array Oper) (M0 : Nat → Option Obj) (S : List Atom)
def Det (o : Oper) (fr : List Value) (v : Value) : Prop := (wants ops o fr = false ∧ v = undef) ∨ (wants ops o fr = true ∧ clsL lk o = .quiet ∧ QV P T M0 S o.op fr v)
def Stp (o : Oper) (fr : List Value) (M : Nat → Option Obj) (L : List Atom) (K : KD) : Prop :=
  (∃ v, Det lk P T ops M0 S o fr v ∧ K (setD fr o.dst v) M L) ∨
  (wants ops o fr = true ∧ clsL lk o = .alloc ∧ ∃ ak, AKof T fr o.op ak ∧ ∀ g, Real S M (ak.atom g :: L) → K (setD fr o.dst (ak.val g)) M (ak.atom g :: L)) ∨
  (wants ops o fr = true ∧ clsL lk o = .call ∧ SemOp P o fr ⟨M, S ++ L⟩ fun v H' => ∃ M' L', Weak H' ⟨M', S ++ L'⟩ ∧ MLe M M' ∧ (Real S M' L' → K (setD fr o.dst v) M' L'))
def okPair (lk : List Nat) (o i : Oper) : Bool :=
  match clsL lk o, clsL lk i with
  | .quiet, _ | _, .quiet => true
  | .call, .alloc | .alloc, .alloc => true
  | _, _ => false
end

section
variable {P : Program} {T : Tab} {ops : Array Oper} {M0 M : Nat → Option Obj} {S L : List Atom} {fr : List Value} {o i : Oper} {K : KD}

theorem real_rep (h : Real S M L) (hM : MLe M0 M) : ∃ w0 F w, RepF w0 F ⟨M0, S⟩ w := by
  obtain ⟨w0, F, w, hr⟩ := h
  refine ⟨w0, L ++ F, w, ?_⟩
  have h1 : RepF w0 F ⟨M0, S ++ L⟩ w := Weak.shrinkM hM w0 F w hr
  unfold RepF at h1 ⊢
  rwa [List.append_assoc] at h1
theorem real_alloc (hr : Real S M L) (ak : AK) (h : AKof T fr o.op ak) (hT : Tab.okFrom P 0 T) : ∃ g, Real S M (ak.atom g :: L) := by
  obtain ⟨w0, F, w, hr⟩ := hr
  have hop := opF_ok (P := P) (E := fun _ _ => False) hT o fr hr (opF_alloc_mk (K := fun v H' => ∃ g, H' = ⟨M, ak.atom g :: (S ++ L)⟩) ak h fun g => ⟨g, rfl⟩)
  have done : ∀ (H' : Hp) (w' : World), RepF w0 F H' w' → (∃ g, H' = ⟨M, ak.atom g :: (S ++ L)⟩) → ∃ g, Real S M (ak.atom g :: L) := by
    rintro _ w' hr' ⟨g, rfl⟩
    exact ⟨g, w0, F, w', Weak.perm (List.perm_middle (l₁ := S) (l₂ := L) (a := ak.atom g)).symm _ _ _ hr'⟩
  unfold OpRes at hop
  split at hop
  · obtain ⟨H', h1, h2⟩ := hop; exact done H' _ h1 h2
  · obtain ⟨H', h1, h2⟩ := hop; exact done H' _ h1 h2
  · obtain ⟨e, w'', fr', ⟨H', h1, h2⟩, _⟩ := hop []
    cases e with
    | returned v => exact done H' _ h1 h2
    | panicked ch => exact h2.elim
    | outgrown => exact h2.elim
  · obtain ⟨H', h1, h2⟩ := hop; exact h2.elim
  · exact hop.elim
/-- An operation that only computes and reads gives its value, and the world is as it was. -/
theorem quiet_run (hT : Tab.okFrom P 0 T) {H : Hp} {K' : Value → Hp → Prop} {E : List PanicEntry → Hp → Prop} (hc : clsOf o.op = .quiet) {w0 w : World} {F : List Atom} (hr : RepF w0 F H w) (h : opF P T o.op fr H K' E) :
    ∃ v, (execOp (evL fr) o).run P w = .ok (.value v) w ∧ K' v H := by
  have hval : ∀ {s : Sem Value} {v : Value} {w' : World}, s.run P w = .ok v w' → (do pure (.value (← s)) : Sem Next).run P w = .ok (.value v) w' := by
    intro s v w' hs; simp [hs]
  have fin : ∀ {s : Sem Value}, (∃ v, s.run P w = .ok v w ∧ K' v H) → ∃ v, (do pure (.value (← s)) : Sem Next).run P w = .ok (.value v) w ∧ K' v H := fun ⟨v, h1, h2⟩ => ⟨v, hval h1, h2⟩
  obtain ⟨dst, op, ty, pos, after, guard⟩ := o
  simp only at h hc
  cases op <;> try (cases hc; done)
  case move x => simp only [opF, evF_iff] at h; exact ⟨_, rfl, h⟩
  case assign x => simp only [opF, evF_iff] at h; exact ⟨_, rfl, h⟩
  case pick c x y =>
    simp only [opF, evF_iff, pickF] at h
    split at h
    · rename_i b hb
      simp only [execOp, hb, asBool]
      rcases ifC_out h with ⟨rfl, h⟩ | ⟨rfl, h⟩
      · exact ⟨_, rfl, h⟩
      · exact ⟨_, rfl, h⟩
    · exact h.elim
  case build t ps =>
    simp only [opF, evpF_iff] at h
    have he : (ps.map fun (i, x) => (i, evL fr x)) = (ps.toList.map fun p => (p.1, evL fr p.2)).toArray := by apply Array.toList_inj.1; simp
    simp only [execOp, he]
    exact fin (buildF_ok hT h)
  case load t x => simp only [opF, evF_iff] at h; exact fin (loadF_ok hT hr h)
  case nilCheck x =>
    simp only [opF, evF_iff] at h
    obtain ⟨hk, ⟨a, ha⟩ | ⟨f, a, b, ha⟩⟩ := nilCheckF_ok h
    · simp only [execOp, ha]; rw [ha] at hk; exact ⟨_, rfl, hk⟩
    · simp only [execOp, ha]; rw [ha] at hk; exact ⟨_, rfl, hk⟩
  case binOp op t x y ty => simp only [opF, evF_iff] at h; exact fin (binF_ok hT h x y)
  case unOp op t x => simp only [opF, evF_iff] at h; exact fin (unF_ok h)
  case convert s d x => simp only [opF, evF_iff] at h; exact fin (convF_ok hT h)
  case makeInterface t x =>
    have hh := opF_ok (P := P) hT ⟨dst, .makeInterface t x, ty, pos, after, guard⟩ fr hr h
    simp only [opF, evF_iff] at h
    obtain ⟨i, hi, h⟩ := tyF_get h
    rcases ifC_out h with ⟨e, h⟩ | ⟨e, h⟩
    · exact h.elim
    · simp only [execOp, Instr.makeInterface, Sem.run_bind] at hh ⊢
      cases hu : (underlying t).run P w with
      | ok d w' =>
        have hw : w' = w := by
          simp only [underlying, Sem.run_bind, run_program, Result.andThen_ok] at hu
          split at hu
          · simp at hu; exact hu.2.symm
          · simp at hu
        subst hw
        simp only [hu, Result.andThen_ok] at hh ⊢
        cases d <;> first
          | exact ⟨_, rfl, h⟩
          | exact (show False from hh).elim
      | halt x w' =>
        simp only [underlying, Sem.run_bind, run_program, Result.andThen_ok] at hu
        split at hu
        · simp at hu
        · simp at hu
          obtain ⟨rfl, rfl⟩ := hu
          simp only [underlying, Sem.run_bind, run_program, Result.andThen_ok] at hh
          split at hh
          · simp_all
          · exact (show False from hh).elim
  case makeFunc fn a b =>
    simp only [opF, evsF_iff] at h
    have e1 : (a.toList.map (evL fr)).toArray = a.map (evL fr) := by apply Array.toList_inj.1; simp
    have e2 : (b.toList.map (evL fr)).toArray = b.map (evL fr) := by apply Array.toList_inj.1; simp
    rw [e1, e2] at h
    exact ⟨_, hval (Sem.run_pure ..), h⟩
  case slice t x lo hi mx => simp only [opF, evF_iff, evOptF_iff] at h; exact fin (sliceF_ok hT h)
  case fieldAddr t x f => simp only [opF, evF_iff] at h; exact fin (fieldAddrF_ok hT h)
  case field t x f => simp only [opF, evF_iff] at h; exact fin (fieldF_ok hT h)
  case indexAddr t x i => simp only [opF, evF_iff] at h; exact fin (indexAddrF_ok hT h)
  case index t x i => simp only [opF, evF_iff] at h; exact fin (indexF_ok hT h)
  case lookup t m k ok => simp only [opF, evF_iff] at h; exact fin (lookupF_ok hT hr h)
  case typeAssert x xt a ok => simp only [opF, evF_iff] at h; exact fin (typeAssertF_ok hT h)
  case extract x i =>
    simp only [opF, evF_iff] at h
    split at h
    · rename_i vs hv
      obtain ⟨v, h1, hk⟩ := nthG_get h
      simp only [execOp, hv, Instr.extract]
      have h1' : vs[i]? = some v := by simpa using h1
      rw [h1']
      exact ⟨_, rfl, hk⟩
    · exact h.elim
  case call c =>
    obtain ⟨callee, args, ts⟩ := c
    cases callee with
    | invoke r m => cases hc
    | value f => cases hc
    | builtin b =>
      simp only [opF, evsF_iff] at h
      simp only [execOp, resolve, Sem.run_bind, Sem.run_pure, Result.andThen_ok, invoke]
      have eargs : args.map (evL fr) = (args.toList.map (evL fr)).toArray := by apply Array.toList_inj.1; simp
      rw [eargs]
      unfold builtinF at h
      split at h
      · rename_i t x hts hvs
        obtain ⟨v, hv, hk⟩ := lenF_ok (ty := ty) hT hr h
        have e : ts = #[t] := by apply Array.toList_inj.1; simpa using hts
        rw [hvs, e]; simp only [builtin]; exact ⟨v, hval hv, hk⟩
      · cases hc
      · cases hc
      · cases hc
      · rename_i x y hvs
        rw [hvs]
        unfold minF at h
        split at h
        · exact ⟨_, rfl, h⟩
        · exact h.elim
      · rename_i x y hvs
        rw [hvs]
        unfold maxF at h
        split at h
        · exact ⟨_, rfl, h⟩
        · exact h.elim
      · exact h.elim

theorem QV_fun (hT : Tab.okFrom P 0 T) (hc : clsOf o.op = .quiet) (hr : ∃ w0 F w, RepF w0 F ⟨M0, S⟩ w) {v u : Value} (h : QV P T M0 S o.op fr v) (h' : QV P T M0 S o.op fr u) : v = u := by
  obtain ⟨w0, F, w, hr⟩ := hr
  obtain ⟨x, h1, e1⟩ := quiet_run hT hc hr h
  obtain ⟨y, h2, e2⟩ := quiet_run hT hc hr h'
  rw [h1] at h2
  simp at h2
  rw [← e1, ← e2, h2]

end
end Go.Proofs.Ytohdcmkooedkcaa.A
