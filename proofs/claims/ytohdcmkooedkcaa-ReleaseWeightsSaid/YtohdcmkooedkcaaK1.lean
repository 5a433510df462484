/- Rows, lists of ints and of bools in memory; slices.IndexFunc, ContainsFunc at ints; groups of pieces. -/
import Derived.Test.YtohdcmkooedkcaaB1
namespace Go.Proofs.Ytohdcmkooedkcaa.A
open Go Go.RowKit
set_option linter.unusedVariables false
set_option linter.unusedSimpArgs false
set_option maxRecDepth 4000

theorem okV {R : Ending → Hp → Prop} {H : Hp} {p : Prop} [Decidable p] (hR : R (.returned (.bool (decide p))) H) {b : Bool} (e : b = true ↔ p) : R (.returned (.bool b)) H := by
  rw [show b = decide p by by_cases h : p <;> simp [h] <;> cases b <;> simp_all]; exact hR
theorem weakNil (H : Hp) (e : TypeId) (sz : Nat) : Weak H ⟨H.M, .row (.slice none 0 0) e sz [] :: H.L⟩ := by
  intro w0 F w hr
  refine ⟨hr.below, hr.M, ?_, ?_, ?_⟩
  · intro a ha
    rcases List.mem_cons.1 ha with rfl | ha
    · exact .inl ⟨rfl, rfl⟩
    · exact hr.holds a ha
  · intro a ha g hg
    rcases List.mem_cons.1 ha with rfl | ha
    · simp [Atom.foot] at hg
    · exact hr.low a ha g hg
  · refine List.pairwise_cons.2 ⟨fun b _ g hg => ?_, hr.apart⟩
    simp [Atom.foot] at hg
theorem readsRow {H : Hp} {v : Value} {e : TypeId} {sz : Nat} {xs : List Value} (hm : Atom.row v e sz xs ∈ H.L) (hv : RowVal v sz xs) : Reads H v sz xs := by
  rcases hv with ⟨rfl, rfl⟩ | ⟨g, o, n, c, rfl, h1, h2, h3⟩
  · exact ⟨none, 0, 0, rfl, Nat.le_refl _, by simp, fun h => absurd h (by omega)⟩
  · exact ⟨_, n, c, rfl, h2, h1, fun _ => ⟨g, o, rfl, fun j v hj => .inr ⟨_, hm, rfl, by simp, by rw [Nat.add_sub_cancel_left]; exact hj⟩⟩⟩
theorem c_IndexFuncI (v : Value) (l : List Int) (H : Hp) (hv : IntsAt H v l) (id : Nat) (cap : Array Value) (P : Int → Bool)
    (hP : ∀ x ∈ l, ∀ R : Ending → Hp → Prop, R (.returned (.bool (P x))) H → ACalls Try.prog id ([.int .i64 x] ++ cap.toList) H R) (R : Ending → Hp → Prop)
    (hR : ∀ r, ((0 : Int) ≤ r ↔ l.any P = true) → R (.returned (.int .i64 r)) H) : ACalls Try.prog 40 [v, .func (.func id) #[] cap] H R := by
  obtain ⟨p, c, rfl, hlc, hc⟩ := hv.open
  have hb := hv.len
  refine acalls_code hT Try.func40 rfl rfl ?_
  conv => whnf
  refine awp_loopL hT 19 [0, 1, 7, 8] (fun n vs H' => ∃ k : Nat, vs = [.slice p l.length c, .func (.func id) #[] cap, .int .i64 l.length, .int .i64 k] ∧ n + k = l.length ∧ (l.take k).any P = false ∧ H' = H) l.length rfl rfl (Weak.refl _) ⟨0, rfl, rfl, rfl, rfl⟩ ?_
  rintro n u vs H' ⟨k, rfl, hk, ht, rfl⟩
  conv => whnf
  refine ifC_dec (fun h1 => ?_) (fun h1 => ?_)
  · conv => whnf
    obtain ⟨g, o, rfl, hcell⟩ := hc k (by omega) (by omega)
    refine ⟨g, o, rfl, by omega, ?_⟩
    conv => whnf
    refine ⟨_, hcell, ?_⟩
    conv => whnf
    have hkl : k < l.length := by omega
    have e1 : geti l k = l[k] := by simp [geti, List.getD_eq_getElem?_getD, hkl]
    refine hP _ (geti_mem (by omega) (by omega)) _ ?_
    conv => whnf
    refine ifC_cases (fun h2 => ?_) (fun h2 => ?_)
    · conv => whnf
      refine ⟨rfl, ?_⟩
      conv => whnf
      refine fin (Weak.refl _) (hR _ ⟨fun _ => ?_, fun _ => by omega⟩)
      exact List.any_eq_true.2 ⟨_, geti_mem (i := (k : Int)) (by omega) (by omega), h2⟩
    · conv => whnf
      repeat (refine ⟨_, wi (by omega), ?_⟩; conv => whnf)
      refine ⟨rfl, rfl, n - 1, _, by omega, Weak.refl _, k + 1, rfl, by omega, ?_, rfl⟩
      rw [List.take_succ_eq_append_getElem hkl, List.any_append, ht, ← e1]
      simpa using h2
  · conv => whnf
    refine ⟨rfl, ?_⟩
    conv => whnf
    refine fin (Weak.refl _) (hR _ ⟨fun h => by omega, fun h => ?_⟩)
    have : k = l.length := by omega
    subst this
    rw [List.take_length, h] at ht
    cases ht
theorem c_ContainsFuncI (v : Value) (l : List Int) (H : Hp) (hv : IntsAt H v l) (id : Nat) (cap : Array Value) (P : Int → Bool)
    (hP : ∀ x ∈ l, ∀ R : Ending → Hp → Prop, R (.returned (.bool (P x))) H → ACalls Try.prog id ([.int .i64 x] ++ cap.toList) H R) (R : Ending → Hp → Prop)
    (hR : R (.returned (.bool (l.any P))) H) : ACalls Try.prog 26 [v, .func (.func id) #[] cap] H R := by
  refine acalls_code hT Try.func26 rfl rfl ?_
  conv => whnf
  refine c_IndexFuncI v l H hv id cap P hP _ ?_
  intro r hr
  conv => whnf
  refine ⟨rfl, ?_⟩
  conv => whnf
  refine fin (Weak.refl _) ?_
  rw [show decide (0 ≤ r) = l.any P by cases h : l.any P <;> simp [h] at hr ⊢ <;> omega]
  exact hR
theorem reads_len {H : Hp} {v : Value} {sz : Nat} {xs : List Value} (h : Reads H v sz xs) : ∃ p n c, v = .slice p n c ∧ xs.length = n * sz ∧ (p.isNone = true → xs = []) := by
  obtain ⟨p, n, c, rfl, h1, h2, h3⟩ := h
  refine ⟨p, n, c, rfl, h2, fun hp => ?_⟩
  cases n with
  | zero => exact List.length_eq_zero_iff.1 (by simpa using h2)
  | succ n => obtain ⟨g, o, rfl, _⟩ := h3 (by omega); cases hp
theorem readsNew {M : Nat → Option Obj} {L : List Atom} {g n e sz : Nat} {xs : List Value} (h : xs.length = n * sz) (hn : Nat.ble n 1000 = true) : Reads ⟨M, .row (.slice (some ⟨g, 0, none⟩) n n) e sz xs :: L⟩ (.slice (some ⟨g, 0, none⟩) n n) sz xs :=
  readsRow (e := e) List.mem_cons_self (.inr ⟨g, 0, n, n, rfl, h, Nat.le_refl _, by have := Nat.le_of_ble_eq_true hn; simp [maxLen]; omega⟩)
def bools (l : List Bool) : List Value := l.map Value.bool
theorem weakMid {M : Nat → Option Obj} {a : Atom} {S L : List Atom} : Weak ⟨M, a :: (S ++ L)⟩ ⟨M, S ++ a :: L⟩ := Weak.perm List.perm_middle.symm
def ptr (g : Nat) : Value := .pointer (some ⟨g, 0, none⟩)
theorem cellOwn {H : Hp} {g i : Nat} {e : TypeId} {cs : List Value} {v : Value} (h : Atom.cells g e cs ∈ H.L) (hv : cs[i]? = some v) : H.cell g i v := .inr ⟨_, h, rfl, hv⟩
theorem repZ_bools (n : Nat) : repZ n [.bool false] = bools (List.replicate n false) := by
  induction n with
  | zero => rfl
  | succ n ih => simp only [repZ, bools, List.replicate_succ, List.flatten_cons, List.map_cons] at *; rw [ih]; rfl
theorem repZ_ints (n : Nat) : repZ n [.int .i64 0] = ints (List.replicate n 0) := by
  induction n with
  | zero => rfl
  | succ n ih => simp only [repZ, ints, List.replicate_succ, List.flatten_cons, List.map_cons] at *; rw [ih]; rfl
theorem bools_length (l : List Bool) : (bools l).length = l.length := by simp [bools]
theorem bools_one (l : List Bool) : ∀ u ∈ bools l, u.oneCell' = true := by
  intro u hu
  simp only [bools, List.mem_map] at hu
  obtain ⟨a, _, rfl⟩ := hu
  rfl
theorem RowVal.slice {v : Value} {sz : Nat} {xs : List Value} (h : RowVal v sz xs) : ∃ p n c, v = .slice p n c := by
  rcases h with ⟨rfl, _⟩ | ⟨g, o, n, c, rfl, _⟩
  · exact ⟨_, _, _, rfl⟩
  · exact ⟨_, _, _, rfl⟩
theorem hle_app (S L : List Atom) (M : Nat → Option Obj) : HLe ⟨M, S⟩ ⟨M, S ++ L⟩ := fun g i v h => by
  rcases h with h | ⟨b, hb, h⟩
  · exact .inl h
  · exact .inr ⟨b, List.mem_append_left _ hb, h⟩
theorem CellsAt.mono {H H' : Hp} {g o : Nat} {vs : List Value} (h : CellsAt H g o vs) (hl : HLe H H') : CellsAt H' g o vs := fun j v hj => hl _ _ _ (h j v hj)
/-- A store into a row that is owned. -/
theorem stW {L : List Atom} {g o o' n cap e sz : Nat} {xs xs' vs : List Value} {Φ : List Atom → Prop} (i : Nat) (h : L[i]? = some (.row (.slice (some ⟨g, o', none⟩) n cap) e sz xs)) (k : Nat) (hk : o = o' + k) (hl : k + vs.length ≤ xs.length)
    (h1 : oneCells vs) (hx : setN xs k vs = xs') (hΦ : Φ (L.set i (.row (.slice (some ⟨g, o', none⟩) n cap) e sz xs'))) : oneCells vs ∧ ∃ L', StoreTo L g o vs L' ∧ Φ L' := by
  subst hk hx
  exact ⟨h1, _, .inr ⟨i, o', n, cap, e, sz, xs, h, by omega, by omega, by rw [Nat.add_sub_cancel_left]⟩, hΦ⟩
def getb (l : List Bool) (i : Int) : Bool := l.getD i.toNat false
theorem boolsAt {H : Hp} {v : Value} {l : List Bool} (h : Reads H v 1 (bools l)) : ∃ p c, v = .slice p l.length c ∧
    ∀ i : Int, 0 ≤ i → i < l.length → ∃ g o, p = some ⟨g, o, none⟩ ∧ H.cell g (o + i.toNat * 1) (.bool (getb l i)) := by
  obtain ⟨p, n, c, rfl, hnc, hl, hc⟩ := h
  rw [bools_length, Nat.mul_one] at hl
  subst hl
  refine ⟨p, c, rfl, fun i h0 h1 => ?_⟩
  obtain ⟨g, o, rfl, hcells⟩ := hc (by omega)
  refine ⟨g, o, rfl, ?_⟩
  rw [Nat.mul_one]
  have hlt : i.toNat < l.length := by omega
  refine hcells i.toNat _ ?_
  simp [bools, getb, List.getD_eq_getElem?_getD, List.getElem?_eq_getElem hlt]
theorem bools_set (l : List Bool) (k : Nat) (b : Bool) : setN (bools l) k [.bool b] = bools (l.set k b) := by simp [setN, bools]
theorem any_step {α : Type} {l : List α} {P : α → Bool} {k : Nat} (hk : k < l.length) (h : (l.take k).any P = false) (h1 : P l[k] = false) : (l.take (k + 1)).any P = false := by
  rw [List.take_succ_eq_append_getElem hk, List.any_append, h]; simpa using h1
theorem geti_at {l : List Int} {k : Nat} (hk : k < l.length) : geti l k = l[k] := by simp [geti, List.getD_eq_getElem?_getD, hk]
theorem rowNew {g n sz : Nat} {xs : List Value} (h : xs.length = n * sz) (hn : n ≤ 1000) : RowVal (.slice (some ⟨g, 0, none⟩) n n) sz xs := .inr ⟨g, 0, n, n, rfl, h, Nat.le_refl _, by simp [maxLen]; omega⟩
theorem IntsAt.take {H : Hp} {p : Option Addr} {n c : Nat} {l : List Int} (h : IntsAt H (.slice p n c) l) (k : Nat) (hk : k ≤ l.length) : IntsAt H (.slice (subAddr p c 0 1) (k - 0) (c - 0)) (l.take k) := by
  obtain ⟨p', n', c', e, h1, h2, h3⟩ := h.reads
  cases e
  rw [ints_length, Nat.mul_one] at h2
  have hlen := h.len
  refine ⟨⟨_, _, _, rfl, by omega, by simp [ints_length, List.length_take]; omega, fun h0 => ?_⟩, fun x hx => h.fit x (List.mem_of_mem_take hx), by simp; omega⟩
  obtain ⟨g, o, rfl, hcells⟩ := h3 (by omega)
  have : subAddr (some ⟨g, o, none⟩) c 0 1 = some ⟨g, o, none⟩ := by
    unfold subAddr
    split
    · rfl
    · simp [Addr.add]
  refine ⟨g, o, this, fun j u hj => hcells j u ?_⟩
  simp only [ints, List.getElem?_map, List.getElem?_take] at hj ⊢
  split at hj
  · exact hj
  · simp at hj
theorem intsAt {H : Hp} {v : Value} {l : List Int} (h : Reads H v 1 (ints l)) : ∃ p c, v = .slice p l.length c ∧
    ∀ i : Int, 0 ≤ i → i < l.length → ∃ g o, p = some ⟨g, o, none⟩ ∧ H.cell g (o + i.toNat * 1) (.int .i64 (geti l i)) := by
  obtain ⟨p, n, c, rfl, hnc, hl, hc⟩ := h
  rw [ints_length, Nat.mul_one] at hl
  subst hl
  refine ⟨p, c, rfl, fun i h0 h1 => ?_⟩
  obtain ⟨g, o, rfl, hcells⟩ := hc (by omega)
  refine ⟨g, o, rfl, ?_⟩
  rw [Nat.mul_one]
  have hlt : i.toNat < l.length := by omega
  refine hcells i.toNat _ ?_
  simp [ints, geti, List.getD_eq_getElem?_getD, List.getElem?_eq_getElem hlt]
theorem RowVal.len {v : Value} {sz : Nat} {xs ys : List Value} (h : RowVal v sz xs) (hl : ys.length = xs.length) : RowVal v sz ys := by
  rcases h with ⟨rfl, rfl⟩ | ⟨g, o, n, c, rfl, h1, h2, h3⟩
  · exact .inl ⟨rfl, List.length_eq_zero_iff.1 (by simpa using hl)⟩
  · exact .inr ⟨g, o, n, c, rfl, by omega, h2, h3⟩
/-- m pieces behind the first n are given up. -/
theorem weakSkip {M : Nat → Option Obj} {L L' : List Atom} (n m : Nat) (h : L.take n ++ L.drop (n + m) = L') : Weak ⟨M, L⟩ ⟨M, L'⟩ := by
  subst h
  have e : L = L.take n ++ ((L.drop n).take m ++ (L.drop n).drop m) := by rw [List.take_append_drop, List.take_append_drop]
  have h2 : Weak ⟨M, L⟩ ⟨M, (L.drop n).take m ++ (L.take n ++ (L.drop n).drop m)⟩ := Weak.perm (by
    conv => lhs; rw [e]
    rw [← List.append_assoc, ← List.append_assoc]
    exact List.Perm.append_right _ List.perm_append_comm)
  have h3 := h2.trans (Weak.dropAll M _ _)
  rwa [List.drop_drop] at h3
theorem ints_set (l : List Int) (k : Nat) (x : Int) : setN (ints l) k [.int .i64 x] = ints (l.set k x) := by simp [setN, ints]
theorem hle_pre (S L : List Atom) {M : Nat → Option Obj} : HLe ⟨M, L⟩ ⟨M, S ++ L⟩ := fun g i v h => by
  rcases h with h | ⟨b, hb, h⟩
  · exact .inl h
  · exact .inr ⟨b, List.mem_append_right _ hb, h⟩
theorem intsRow {H : Hp} {v : Value} {l : List Int} (i : Nat) (h : H.L[i]? = some (.row v 3 1 (ints l))) (hv : RowVal v 1 (ints l)) (hf : ∀ x ∈ l, I64 x) (hl : l.length ≤ 1000) : IntsAt H v l := ⟨readsRow (List.mem_of_getElem? h) hv, hf, by omega⟩
theorem nilI (H : Hp) : IntsAt H (.slice none 0 0) [] := ⟨⟨none, 0, 0, rfl, Nat.le_refl _, rfl, fun h => absurd h (by omega)⟩, by simp, by simp⟩
theorem RowVal.le {p : Option Addr} {n c sz : Nat} {xs : List Value} (h : RowVal (.slice p n c) sz xs) : n ≤ c := by
  rcases h with ⟨h, _⟩ | ⟨g, o, n', c', h, _, h2, _⟩
  · cases h; exact Nat.le_refl _
  · cases h; exact h2
/-- A row of slices: each in one cell. -/
theorem cellRow {H : Hp} {g n : Nat} {e : TypeId} {xs : List Value} (i : Nat) (h : H.L[i]? = some (.row (.slice (some ⟨g, 0, none⟩) n n) e 1 xs)) (k : Nat) {v : Value} (hk : xs[k]? = some v) : H.cell g (0 + (k : Int).toNat * 1) v :=
  .inr ⟨_, List.mem_of_getElem? h, rfl, by simp, by simpa using hk⟩
theorem weakApp {M : Nat → Option Obj} {S : List Atom} {a b : Atom} : Weak ⟨M, S ++ [a, b]⟩ ⟨M, b :: (S ++ [])⟩ :=
  (Weak.perm List.perm_append_comm).trans (weakK 1 (by simp))
theorem hle_sub {M : Nat → Option Obj} {L L' : List Atom} (h : ∀ a ∈ L, a ∈ L') : HLe ⟨M, L⟩ ⟨M, L'⟩ := fun g i v hv => by
  rcases hv with hv | ⟨b, hb, hv⟩
  · exact .inl hv
  · exact .inr ⟨b, h b hb, hv⟩
def catT : List (List Atom) → List Atom → List Atom
  | [], t => t
  | A :: r, t => A ++ catT r t
def pullG {α : Type} : List Nat → List α → List α
  | [], L => L
  | i :: is, L => match L[i]? with
    | some a => a :: pullG is (L.eraseIdx i)
    | none => L
theorem eraseG_perm {α : Type} : ∀ {L : List α} {i : Nat} {a : α}, L[i]? = some a → L.Perm (a :: L.eraseIdx i)
  | [], i, a, h => by simp at h
  | b :: L, 0, a, h => by simp at h; subst h; exact List.Perm.refl _
  | b :: L, i + 1, a, h => ((eraseG_perm (L := L) (i := i) (a := a) (by simpa using h)).cons b).trans (List.Perm.swap ..)
theorem pullG_perm {α : Type} : ∀ (is : List Nat) (L : List α), L.Perm (pullG is L)
  | [], L => List.Perm.refl _
  | i :: is, L => by
    unfold pullG
    split
    · rename_i a ha
      exact (eraseG_perm ha).trans ((pullG_perm is (L.eraseIdx i)).cons _)
    · exact List.Perm.refl _
theorem catT_perm {Y : List Atom} {Bs Cs : List (List Atom)} (h : Bs.Perm Cs) : (catT Bs Y).Perm (catT Cs Y) := by
  induction h with
  | nil => exact List.Perm.refl _
  | cons a _ ih => exact List.Perm.append_left a ih
  | swap a b l => exact List.perm_append_comm_assoc b a (catT l Y)
  | trans _ _ h1 h2 => exact h1.trans h2
/-- Groups come first. -/
theorem weakBlk {M : Nat → Option Obj} (Bs : List (List Atom)) (is : List Nat) (Y : List Atom) {L : List Atom} (h : catT (pullG is Bs) Y = L) : Weak ⟨M, catT Bs Y⟩ ⟨M, L⟩ := by
  subst h; exact Weak.perm (catT_perm (pullG_perm is Bs))
theorem HLe.cell {H H' : Hp} {g i : Nat} {v : Value} (h : HLe H H') (hc : H.cell g i v) : H'.cell g i v := h g i v hc
end Go.Proofs.Ytohdcmkooedkcaa.A
