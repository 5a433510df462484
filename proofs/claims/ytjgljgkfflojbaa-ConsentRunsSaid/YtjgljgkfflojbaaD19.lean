/- A book in pieces of its own; Renew and base beside pieces that stand by. -/
import Derived.Test.YtjgljgkfflojbaaD18
namespace Go.Proofs.Ytjgljgkfflojbaa.A
open Go Go.RowKit
set_option linter.unusedVariables false
set_option linter.unusedSimpArgs false
set_option maxRecDepth 20000

/-- A book in pieces B of its own. -/
def Own (g : Nat) (S : St) (M : Nat → Option Obj) (B : List Atom) : Prop :=
  ∃ tv r ts N, S = stOf ts S.gone ∧ RowVal tv 4 (tvs ts) ∧ (∀ x ∈ ts, ThAt ⟨M, N⟩ x) ∧ B = cbA g tv r ts S.gone ++ N
section
variable {g : Nat} {S : St} {M : Nat → Option Obj} {B L K X : List Atom} {H : Hp} {R : Ending → Hp → Prop}
theorem o_New (hR : ∀ g B, Own g ⟨[], []⟩ H.M B → R (.returned (ptr g)) ⟨H.M, B ++ H.L⟩) : ACalls Try.prog 8 [] H R :=
  c_New26 H R fun g r => hR g _ ⟨.slice none 0 0, r, [], [], rfl, .inl ⟨rfl, rfl⟩, by simp, (List.append_nil _).symm⟩
theorem o_Depends (hb : Own g S M B) (hok : okS S) {i : Int} (hi : 0 ≤ i ∧ i < S.ts.length)
    (hR : ∀ v', RowVal v' 1 (ints (S.th i).b) → R (.returned (.tuple #[v', .bool (S.th i).u, .int .i64 0])) ⟨M, .row v' 3 1 (ints (S.th i).b) :: (B ++ L)⟩) :
    ACalls Try.prog 15 [ptr g, .int .i64 i] ⟨M, B ++ L⟩ R := by
  obtain ⟨tv, r, ts, N, hS, h2, h3, rfl⟩ := hb
  have hgone : S.gone = (stOf ts S.gone).gone := rfl
  generalize S.gone = gone at *
  subst hS
  have ho := hok.ts
  have hsn : (stOf ts gone).ts.length = ts.length := by simp [stOf]
  rw [hsn] at hi
  rw [List.append_assoc] at hR ⊢
  exact c_Depends g tv r ts gone i _ (cbIn h2 (fun x hx => (h3 x hx).mono (hle_sub fun a ha => List.mem_append_right _ (List.mem_append_left _ ha))) fun a ha => List.mem_append_left _ ha) ho.1 _ (fun h => absurd hi h) (fun hi v' hv' => hR v' hv')
theorem o_Make (hb : Own g S M B) (hok : okS S) {fv pv : Value} {f p : List Int} (hf : IntsAt ⟨M, L⟩ fv f) (hp : IntsAt ⟨M, L⟩ pv p) (he : (mkS S f p).2.2 = 0)
    (hR : ∀ B', Own g (mkS S f p).1 M B' → R (.returned (.tuple #[.int .i64 S.ts.length, .int .i64 0])) ⟨M, B' ++ L⟩) : ACalls Try.prog 11 [ptr g, .agg #[fv, pv]] ⟨M, B ++ L⟩ R := by
  obtain ⟨tv, r, ts, N, hS, h2, h3, rfl⟩ := hb
  generalize S.gone = gone at *
  subst hS
  have ho := hok.ts
  have hle : HLe ⟨M, L⟩ ⟨M, N ++ L⟩ := hle_pre N L
  have hsn : (stOf ts gone).ts.length = ts.length := by simp [stOf]
  rw [hsn] at hR
  rw [List.append_assoc]
  refine c_Make g tv r ts gone fv pv f p M _ h2 (fun x hx => (h3 x hx).mono (hle_sub fun a ha => List.mem_append_left _ ha)) ho.1 (hf.mono hle) (hp.mono hle) _ (fun h => absurd he h) (fun _ tv' x hx hV ht => ?_)
  have e1 : (mkS (stOf ts gone) f p).1 = stOf (ts ++ [x]) gone := by
    unfold mkS at *
    split
    · rename_i c; rw [if_pos c] at he; simp at he
    · rename_i c1
      rw [if_neg c1] at he
      split
      · rename_i c; rw [if_pos c] at he; simp at he
      · rename_i c2
        rw [if_neg c2] at he
        split
        · rename_i c; rw [if_pos c] at he; simp at he
        · rename_i c3
          rw [if_neg c3] at he
          split
          · rename_i c; rw [if_pos c] at he; simp at he
          · simp only [stOf, List.map_append, List.map_cons, List.map_nil, hx]
  rw [e1] at hR
  have := hR (cbA g tv' r (ts ++ [x]) gone ++ (thR x ++ N)) ⟨tv', r, ts ++ [x], thR x ++ N, rfl, ht, fun y hy => by
    rcases List.mem_append.1 hy with hy | hy
    · exact (h3 y hy).mono (hle_sub fun a ha => List.mem_append_right _ ha)
    · rw [List.mem_singleton.1 hy]
      exact hV.at fun a ha => List.mem_append_left _ ha, rfl⟩
  rw [List.append_assoc, List.append_assoc] at this
  exact this
theorem q_Renew (A : List Atom) (hb : BoO g S M K X) (hok : okS S) {i : Int}
    (hR : ∀ X', BoO g (rnS S i).1 M K X' → R (.returned (.int .i64 (rnS S i).2)) ⟨M, A ++ X'⟩) : ACalls Try.prog 19 [ptr g, .int .i64 i] ⟨M, A ++ X⟩ R := by
  refine ACalls.frame A (R' := fun e H' => ∃ X', BoO g (rnS S i).1 M K X' ∧ H' = ⟨M, X'⟩ ∧ e = .returned (.int .i64 (rnS S i).2)) ?_ fun e H' ⟨X', h2, h3, h4⟩ => by subst h3 h4; exact hR X' h2
  refine ACalls.post (R' := fun e H' => Bo g (rnS S i).1 M K H' ∧ e = .returned (.int .i64 (rnS S i).2)) (p_Renew hb.2 hok fun H' h2 => ⟨h2, rfl⟩) fun e H' ⟨h2, h3⟩ => ?_
  obtain ⟨X', hw, ho⟩ := h2.o
  exact ⟨_, hw, X', ho, rfl, h3⟩
theorem q_base (A : List Atom) (hb : BoO g S M K X) (hok : okS S) {i : Int} {v : Value} {want : List Int} {u : Bool} (hv : IntsAt ⟨M, K⟩ v want)
    (hR : ∀ X', BoO g S M K X' → R (.returned (.bool (baseB S i want u))) ⟨M, A ++ X'⟩) : ACalls Try.prog 21 [ptr g, .int .i64 i, v, .bool u] ⟨M, A ++ X⟩ R := by
  refine ACalls.frame A (R' := fun e H' => ∃ X', BoO g S M K X' ∧ H' = ⟨M, X'⟩ ∧ e = .returned (.bool (baseB S i want u))) ?_ fun e H' ⟨X', h2, h3, h4⟩ => by subst h3 h4; exact hR X' h2
  refine ACalls.post (R' := fun e H' => Bo g S M K H' ∧ e = .returned (.bool (baseB S i want u))) (p_base hb.2 hok hv fun H' h2 => ⟨h2, rfl⟩) fun e H' ⟨h2, h3⟩ => ?_
  obtain ⟨X', hw, ho⟩ := h2.o
  exact ⟨_, hw, X', ho, rfl, h3⟩
end
end Go.Proofs.Ytjgljgkfflojbaa.A
