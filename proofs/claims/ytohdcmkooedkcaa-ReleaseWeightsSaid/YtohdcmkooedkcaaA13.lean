/- A table of types, held against the program by computation. -/
import Derived.Test.YtohdcmkooedkcaaA12
namespace Go.Proofs.Ytohdcmkooedkcaa.A
open Go Go.RowKit
set_option linter.unusedVariables false
set_option linter.unusedSimpArgs false

def zEq : Value → Value → Bool
  | .int k a, .int k' b => sameK k k' && decide (a = b)
  | .bool a, .bool b => a == b
  | .string a, .string b => a.size == 0 && b.size == 0
  | .pointer none, .pointer none => true
  | .slice none a b, .slice none c d => Nat.beq a c && Nat.beq b d
  | .map none, .map none => true
  | .nilFunc, .nilFunc => true
  | .nilIface, .nilIface => true
  | _, _ => false
theorem zEq_eq {a b : Value} (h : zEq a b = true) : a = b := by
  unfold zEq at h
  split at h <;> first
    | rfl
    | (simp only [Bool.and_eq_true, decide_eq_true_eq] at h; obtain ⟨h1, rfl⟩ := h; rw [sameK_eq h1])
    | (rw [eq_of_beq h])
    | (simp only [Bool.and_eq_true, beq_iff_eq] at h
       obtain ⟨h1, h2⟩ := h
       congr 1
       rename_i x y
       obtain ⟨⟨x⟩⟩ := x
       obtain ⟨⟨y⟩⟩ := y
       have e1 : x = [] := List.eq_nil_of_length_eq_zero h1
       have e2 : y = [] := List.eq_nil_of_length_eq_zero h2
       rw [e1, e2])
    | (simp only [Bool.and_eq_true] at h
       obtain ⟨h1, h2⟩ := h
       rw [Nat.eq_of_beq_eq_true h1, Nat.eq_of_beq_eq_true h2])
    | cases h
def zsEq : List Value → List Value → Bool
  | [], [] => true
  | a :: l, b :: m => zEq a b && zsEq l m
  | _, _ => false
theorem zsEq_eq : ∀ {l m : List Value}, zsEq l m = true → l = m
  | [], [], _ => rfl
  | [], _ :: _, h => by cases h
  | _ :: _, [], h => by cases h
  | a :: l, b :: m, h => by
    simp only [zsEq, Bool.and_eq_true] at h
    rw [zEq_eq h.1, zsEq_eq h.2]
def zEq' (a b : Value) : Bool :=
  match a, b with
  | .agg x, .agg y => zsEq x.toList y.toList
  | a, b => zEq a b
theorem zEq'_eq {a b : Value} (h : zEq' a b = true) : a = b := by
  unfold zEq' at h
  split at h
  · congr 1
    apply Array.toList_inj.1
    exact zsEq_eq h
  · exact zEq_eq h
def fsChk (P : Program) : List Field → List (Nat × Nat × Bool) → Bool
  | [], [] => true
  | f :: l, p :: m => Nat.beq f.offset p.1 && !Nat.beq p.2.1 0 &&
      (match P.info? f.type, P.underlying f.type with
       | some i, some d => Nat.beq i.size p.2.1 && (aggD d == p.2.2)
       | _, _ => false) && fsChk P l m
  | _, _ => false
theorem fsChk_ok {P : Program} : ∀ {l : List Field} {m : List (Nat × Nat × Bool)}, fsChk P l m = true → l.length = m.length ∧ ∀ (j : Nat) (f : Field), l[j]? = some f →
      ∃ (p : Nat × Nat × Bool) (i : TypeInfo) (d : TypeDesc), m[j]? = some p ∧ f.offset = p.1 ∧ p.2.1 ≠ 0 ∧ P.info? f.type = some i ∧ i.size = p.2.1 ∧ P.underlying f.type = some d ∧ aggD d = p.2.2
  | [], [], _ => ⟨rfl, fun j f h => by simp at h⟩
  | [], _ :: _, h => by cases h
  | _ :: _, [], h => by cases h
  | f :: l, p :: m, h => by
    simp only [fsChk, Bool.and_eq_true, Bool.not_eq_true'] at h
    obtain ⟨⟨⟨h1, h2⟩, h3⟩, h4⟩ := h
    obtain ⟨hl, hr⟩ := fsChk_ok h4
    refine ⟨by simp [hl], fun j g hg => ?_⟩
    cases j with
    | zero =>
      simp at hg
      subst hg
      split at h3
      · rename_i i d hi hd
        simp only [Bool.and_eq_true, beq_iff_eq] at h3
        exact ⟨p, i, d, rfl, Nat.eq_of_beq_eq_true h1, Nat.ne_of_beq_eq_false h2, hi, Nat.eq_of_beq_eq_true h3.1, hd, h3.2⟩
      · cases h3
    | succ j => simpa using hr j g (by simpa using hg)
def dChk (P : Program) (t : TypeId) : TD → Bool
  | .int k => match P.underlying t with | some (.int k') => sameK k' k | _ => false
  | .bool => match P.underlying t with | some .bool => true | _ => false
  | .str => match P.underlying t with | some .string => true | _ => false
  | .ptr => match P.underlying t with
    | some (.pointer e) => (match P.info? e with | some i => !Nat.beq i.size 0 | none => false)
    | _ => false
  | .func => match P.underlying t with | some (.func ..) => true | _ => false
  | .iface => match P.underlying t with | some (.interface _) => true | _ => false
  | .slice e esz eb ez => match P.underlying t with
    | some (.slice e') => Nat.beq e' e && (match P.info? e with
      | some i => Nat.beq i.size esz && Nat.beq i.bytes eb && Nat.beq ez.length esz && Nat.blt 0 esz && (match i.zero with | some zv => zsEq zv.cells.toList ez | none => false)
      | none => false)
    | _ => false
  | .arr n esz ea => match P.underlying t with
    | some (.array n' e) => Nat.beq n' n && (match P.info? e, P.underlying e with
      | some i, some d => Nat.beq i.size esz && Nat.blt 0 esz && (aggD d == ea)
      | _, _ => false)
    | _ => false
  | .map k e ez => match P.underlying t with
    | some (.map k' e') => Nat.beq k' k && Nat.beq e' e && (match P.underlying k with | some (.int .i64) => true | _ => false) &&
      (match P.info? e with | some i => (match i.zero with | some zv => zEq' zv ez | none => false) | none => false)
    | _ => false
  | .struct fs => match P.underlying t with
    | some (.struct fields) => fsChk P fields.toList fs
    | _ => false
theorem dChk_ok {P : Program} {t : TypeId} {d : TD} (h : dChk P t d = true) : d.ok P t := by
  cases d with
  | int k =>
    simp only [dChk] at h
    split at h
    · rename_i hu; rw [sameK_eq h] at hu; exact hu
    · cases h
  | bool =>
    simp only [dChk] at h
    split at h
    · assumption
    · cases h
  | str =>
    simp only [dChk] at h
    split at h
    · assumption
    · cases h
  | ptr =>
    simp only [dChk] at h
    split at h
    · rename_i e hu
      split at h
      · rename_i i hi
        exact ⟨e, i, hu, hi, Nat.ne_of_beq_eq_false (by simpa using h)⟩
      · cases h
    · cases h
  | func =>
    simp only [dChk] at h
    split at h
    · exact ⟨_, _, _, by assumption⟩
    · cases h
  | iface =>
    simp only [dChk] at h
    split at h
    · exact ⟨_, by assumption⟩
    · cases h
  | slice e esz eb ez =>
    simp only [dChk] at h
    split at h
    · rename_i e' hu
      simp only [Bool.and_eq_true] at h
      obtain ⟨h0, h⟩ := h
      rw [Nat.eq_of_beq_eq_true h0] at hu
      split at h
      · rename_i i hi
        simp only [Bool.and_eq_true] at h
        obtain ⟨⟨⟨⟨h1, h2⟩, h3⟩, h4⟩, h5⟩ := h
        split at h5
        · rename_i zv hz
          refine ⟨hu, i, zv, hi, Nat.eq_of_beq_eq_true h1, Nat.eq_of_beq_eq_true h2, hz, ?_, Nat.eq_of_beq_eq_true h3, by simpa using h4⟩
          apply Array.toList_inj.1
          exact zsEq_eq h5
        · cases h5
      · cases h
    · cases h
  | arr n esz ea =>
    simp only [dChk] at h
    split at h
    · rename_i n' e hu
      simp only [Bool.and_eq_true] at h
      obtain ⟨h0, h⟩ := h
      rw [Nat.eq_of_beq_eq_true h0] at hu
      split at h
      · rename_i i d hi hd
        simp only [Bool.and_eq_true, beq_iff_eq] at h
        exact ⟨e, i, d, hu, hi, Nat.eq_of_beq_eq_true h.1.1, by simpa using h.1.2, hd, h.2⟩
      · cases h
    · cases h
  | map k e ez =>
    simp only [dChk] at h
    split at h
    · rename_i k' e' hu
      simp only [Bool.and_eq_true] at h
      obtain ⟨⟨⟨h0, h1⟩, h2⟩, h3⟩ := h
      rw [Nat.eq_of_beq_eq_true h0, Nat.eq_of_beq_eq_true h1] at hu
      refine ⟨hu, ?_, ?_⟩
      · split at h2
        · assumption
        · cases h2
      · split at h3
        · rename_i i hi
          split at h3
          · rename_i zv hz
            rw [zEq'_eq h3] at hz
            exact ⟨i, hi, hz⟩
          · cases h3
        · cases h3
    · cases h
  | struct fs =>
    simp only [dChk] at h
    split at h
    · rename_i fields hu
      obtain ⟨hl, hr⟩ := fsChk_ok h
      exact ⟨fields, hu, by simpa using hl, fun j f hj => hr j f (by simpa using hj)⟩
    · cases h
def pairChk (P : Program) (t : TypeId) : Bool :=
  !P.stoodInHeld t && !P.eqGuardType P.depth t && (match P.underlying t with
    | some (.struct fs) => (match fs.toList with
      | [f0, f1] => Nat.beq f0.offset 0 && Nat.beq f1.offset 1 && decide (f0.name ≠ "_") && decide (f1.name ≠ "_") && dChk P f0.type (.int .i64) && dChk P f1.type (.int .i64)
      | _ => false)
    | _ => false)
theorem pairChk_ok {P : Program} {t : TypeId} (h : pairChk P t = true) : PairOk P t := by
  simp only [pairChk, Bool.and_eq_true, Bool.not_eq_true'] at h
  obtain ⟨⟨h1, h2⟩, h3⟩ := h
  split at h3
  · rename_i fs hu
    split at h3
    · rename_i f0 f1 hfs
      simp only [Bool.and_eq_true, decide_eq_true_eq] at h3
      obtain ⟨⟨⟨⟨⟨a, b⟩, c⟩, d⟩, e⟩, g⟩ := h3
      have : fs = #[f0, f1] := by apply Array.toList_inj.1; simpa using hfs
      subst this
      exact ⟨h1, h2, f0, f1, hu, Nat.eq_of_beq_eq_true a, Nat.eq_of_beq_eq_true b, by simpa using c, by simpa using d, dChk_ok e, dChk_ok g⟩
    · cases h3
  · cases h3
def tiChk (P : Program) (t : TypeId) (i : TI) : Bool :=
  dChk P t i.d && (match P.info? t with
    | some info => Nat.beq info.size i.size && Nat.beq i.z.length i.size && (match info.zero with
      | some zv => zsEq zv.cells.toList i.z && (match i.d.agg, zv with
        | true, .agg cs => zsEq cs.toList i.z
        | true, _ => false
        | false, zv => zEq zv (i.z.headD undef))
      | none => false)
    | none => false) && (!i.pair || pairChk P t)
theorem tiChk_ok {P : Program} {t : TypeId} {i : TI} (h : tiChk P t i = true) : i.ok P t := by
  simp only [tiChk, Bool.and_eq_true] at h
  obtain ⟨⟨h1, h2⟩, h3⟩ := h
  refine ⟨dChk_ok h1, ?_, fun hp => pairChk_ok (by simpa [hp] using h3)⟩
  split at h2
  · rename_i info hi
    simp only [Bool.and_eq_true] at h2
    obtain ⟨⟨h4, h5⟩, h6⟩ := h2
    split at h6
    · rename_i zv hz
      simp only [Bool.and_eq_true] at h6
      obtain ⟨h7, h8⟩ := h6
      refine ⟨info, zv, hi, Nat.eq_of_beq_eq_true h4, hz, ?_, Nat.eq_of_beq_eq_true h5, ?_⟩
      · apply Array.toList_inj.1; exact zsEq_eq h7
      · unfold TI.zv
        split at h8
        · rename_i cs ha
          rw [ha]
          simp only
          congr 1
          apply Array.toList_inj.1
          exact zsEq_eq h8
        · cases h8
        · rename_i ha
          rw [ha]
          exact zEq_eq h8
    · cases h6
  · cases h2
def tabChk (P : Program) : Nat → Tab → Bool
  | _, [] => true
  | n, none :: r => tabChk P (n + 1) r
  | n, some i :: r => tiChk P n i && tabChk P (n + 1) r
theorem tabChk_ok {P : Program} : ∀ {T : Tab} {n : Nat}, tabChk P n T = true → Tab.okFrom P n T
  | [], _, _ => trivial
  | none :: r, n, h => tabChk_ok (T := r) h
  | some i :: r, n, h => by
    simp only [tabChk, Bool.and_eq_true] at h
    exact ⟨tiChk_ok h.1, tabChk_ok h.2⟩
end Go.Proofs.Ytohdcmkooedkcaa.A
