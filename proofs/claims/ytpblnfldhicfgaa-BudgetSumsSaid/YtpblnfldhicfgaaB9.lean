/- Books: New. -/
import Derived.Test.YtpblnfldhicfgaaB8
namespace Go.Proofs.Ytpblnfldhicfgaa.A
open Go Go.RowKit
set_option linter.unusedVariables false
set_option linter.unusedSimpArgs false
set_option maxRecDepth 4000

structure Bk where
  lim : List Fr
  sp : List Fr
  own : List Int
  rem : List Bool
  most : List Fr
  owed : List Fr
def bools (l : List Bool) : List Value := l.map Value.bool
/-- A book of package budget in memory. -/
def bkA (g : Nat) (a b c d : Value) (B : Bk) : List Atom := [.cells g 77 [a, b, c, d], .row a 84 4 (accs B.lim B.sp), .row b 84 4 (accs B.most B.owed), .row c 3 1 (ints B.own), .row d 4 1 (bools B.rem)]
structure BkV (a b c d : Value) (B : Bk) : Prop where
  a : RowVal a 4 (accs B.lim B.sp)
  b : RowVal b 4 (accs B.most B.owed)
  c : RowVal c 1 (ints B.own)
  d : RowVal d 1 (bools B.rem)
def newErr (p : List Fr) (o : List Int) (q : List Fr) : Int :=
  if 256 < p.length ∨ 16 < q.length then 4 else
  if o.length ≠ p.length ∨ (o.any fun x => decide (x < 0 ∨ x ≥ q.length)) = true ∨ (p.any fun a => !decide (okC a)) = true ∨ (q.any fun a => !decide (okC a)) = true then 1 else 0
def newB (p : List Fr) (o : List Int) (q : List Fr) : Bk := ⟨p, List.replicate p.length ⟨0, 0⟩, o, List.replicate p.length false, q, List.replicate q.length ⟨0, 0⟩⟩
theorem weakMid {M : Nat → Option Obj} {a : Atom} {S L : List Atom} : Weak ⟨M, a :: (S ++ L)⟩ ⟨M, S ++ a :: L⟩ := Weak.perm List.perm_middle.symm
def ptr (g : Nat) : Value := .pointer (some ⟨g, 0, none⟩)
theorem cellOwn {H : Hp} {g i : Nat} {e : TypeId} {cs : List Value} {v : Value} (h : Atom.cells g e cs ∈ H.L) (hv : cs[i]? = some v) : H.cell g i v := .inr ⟨_, h, rfl, hv⟩
theorem repZ_bools (n : Nat) : repZ n [.bool false] = bools (List.replicate n false) := by
  induction n with
  | zero => rfl
  | succ n ih => simp only [repZ, bools, List.replicate_succ, List.flatten_cons, List.map_cons] at *; rw [ih]; rfl
theorem repZ_frs (n : Nat) : repZ n [.int .i64 0, .int .i64 0] = frs (List.replicate n ⟨0, 0⟩) := by
  induction n with
  | zero => rfl
  | succ n ih => simp only [repZ, frs, List.replicate_succ, List.flatten_cons, List.flatMap_cons] at *; rw [ih]; rfl
theorem repZ_ints (n : Nat) : repZ n [.int .i64 0] = ints (List.replicate n 0) := by
  induction n with
  | zero => rfl
  | succ n ih => simp only [repZ, ints, List.replicate_succ, List.flatten_cons, List.map_cons] at *; rw [ih]; rfl
theorem bools_length (l : List Bool) : (bools l).length = l.length := by simp [bools]
theorem bools_one (l : List Bool) : ∀ u ∈ bools l, u.oneCell' = true := by
  intro u hu
  simp only [bools, List.mem_map] at hu
  obtain ⟨a, _, rfl⟩ := hu
  rfl
theorem RowVal.slice {v : Value} {sz : Nat} {xs : List Value} (h : RowVal v sz xs) : ∃ p n c, v = .slice p n c := by
  rcases h with ⟨rfl, _⟩ | ⟨g, o, n, c, rfl, _⟩
  · exact ⟨_, _, _, rfl⟩
  · exact ⟨_, _, _, rfl⟩
theorem hle_app (S L : List Atom) (M : Nat → Option Obj) : HLe ⟨M, S⟩ ⟨M, S ++ L⟩ := fun g i v h => by
  rcases h with h | ⟨b, hb, h⟩
  · exact .inl h
  · exact .inr ⟨b, List.mem_append_left _ hb, h⟩

theorem c_New (v v' v'' : Value) (p : List Fr) (o : List Int) (q : List Fr) (H : Hp) (hp : FrsAt H v p) (ho : IntsAt H v' o) (hq : FrsAt H v'' q) (R : Ending → Hp → Prop)
    (h0 : newErr p o q ≠ 0 → R (.returned (.tuple #[.pointer none, .int .i64 (newErr p o q)])) H)
    (h1 : newErr p o q = 0 → ∀ g a b c d, BkV a b c d (newB p o q) → R (.returned (.tuple #[ptr g, .int .i64 0])) ⟨H.M, bkA g a b c d (newB p o q) ++ H.L⟩) : ACalls Try.prog 12 [v, v', v''] H R := by
  obtain ⟨pp, pc, rfl, hplc, hpc⟩ := hp.open
  obtain ⟨op, oc, rfl, holc, hoc⟩ := ho.open
  obtain ⟨qp, qc, rfl, hqlc, hqc⟩ := hq.open
  refine acalls_code hT Try.func12 rfl rfl ?_
  conv => whnf
  intro g
  have hp' := hp.mono (HLe.cons H (.cells g 25 [.slice qp q.length qc]))
  have ho' := ho.mono (HLe.cons H (.cells g 25 [.slice qp q.length qc]))
  have hq' := hq.mono (HLe.cons H (.cells g 25 [.slice qp q.length qc]))
  have bad : ∀ e, e ≠ 0 → newErr p o q = e → R (.returned (.tuple #[.pointer none, .int .i64 e])) H := fun e he h => by rw [← h]; exact h0 (by omega)
  conv => whnf
  refine ifC_dec (fun c1 => ?_) (fun c1 => ?_)
  · conv => whnf
    refine ⟨rfl, ?_⟩
    conv => whnf
    exact fin (weakK 1 rfl) (bad 4 (by omega) (if_pos (by omega)))
  · conv => whnf
    refine ldS 0 rfl rfl ?_
    conv => whnf
    refine ifC_dec (fun c2 => ?_) (fun c2 => ?_)
    · conv => whnf
      refine ⟨rfl, ?_⟩
      conv => whnf
      exact fin (weakK 1 rfl) (bad 4 (by omega) (if_pos (by omega)))
    · conv => whnf
      unfold newErr at *
      rw [if_neg (by omega)] at *
      refine ifC_dec (fun c3 => ?_) (fun c3 => ?_)
      · conv => whnf
        refine ⟨rfl, ?_⟩
        conv => whnf
        exact fin (weakK 1 rfl) (bad 1 (by omega) (if_pos (by first | exact .inl (by omega) | exact .inr (.inl c4) | exact .inr (.inr (.inl c5)) | exact .inr (.inr (.inr c6)))))
      · conv => whnf
        refine c_ContainsFuncI _ o _ ho' 35 #[.pointer (some ⟨g, 0, none⟩)] (fun x => decide (x < 0 ∨ x ≥ q.length)) ?_ _ ?_
        · intro x _ R' hR'
          exact c_New2 x g qp q.length qc _ (cellOwn List.mem_cons_self rfl) R' hR'
        conv => whnf
        refine ifC_cases (fun c4 => ?_) (fun c4 => ?_)
        · conv => whnf
          refine ⟨rfl, ?_⟩
          conv => whnf
          exact fin (weakK 1 rfl) (bad 1 (by omega) (if_pos (by first | exact .inl (by omega) | exact .inr (.inl c4) | exact .inr (.inr (.inl c5)) | exact .inr (.inr (.inr c6)))))
        · conv => whnf
          refine c_ContainsFuncF _ p _ hp' 32 #[] (fun a => !decide (okC a)) ?_ _ ?_
          · intro x hx R' hR'
            exact c_New1 x (hp.fit x hx) _ R' hR'
          conv => whnf
          refine ifC_cases (fun c5 => ?_) (fun c5 => ?_)
          · conv => whnf
            refine ⟨rfl, ?_⟩
            conv => whnf
            exact fin (weakK 1 rfl) (bad 1 (by omega) (if_pos (by first | exact .inl (by omega) | exact .inr (.inl c4) | exact .inr (.inr (.inl c5)) | exact .inr (.inr (.inr c6)))))
          · conv => whnf
            refine ldS 0 rfl rfl ?_
            conv => whnf
            refine c_ContainsFuncF _ q _ hq' 32 #[] (fun a => !decide (okC a)) ?_ _ ?_
            · intro x hx R' hR'
              exact c_New1 x (hq.fit x hx) _ R' hR'
            conv => whnf
            refine ifC_cases (fun c6 => ?_) (fun c6 => ?_)
            · conv => whnf
              refine ⟨rfl, ?_⟩
              conv => whnf
              exact fin (weakK 1 rfl) (bad 1 (by omega) (if_pos (by first | exact .inl (by omega) | exact .inr (.inl c4) | exact .inr (.inr (.inl c5)) | exact .inr (.inr (.inr c6)))))
            · have hok := h1 (if_neg (by
                rintro (h | h | h | h)
                · omega
                · rw [c4] at h; cases h
                · rw [c5] at h; cases h
                · rw [c6] at h; cases h))
              conv => whnf
              refine awp_draw hT hM 11 (List.range 11) (by kernel_rfl) H.M (.cells g 25 [.slice qp q.length qc] :: H.L) [] (by rw [List.append_nil]; exact Weak.refl _) ?_
              conv => whnf
              refine c_accounts _ p _ (hp'.mono (hle_app _ _ _)) _ ?_
              intro a ha
              obtain ⟨ap, an, ac, rfl⟩ := ha.slice
              refine ⟨_, _ :: _, weakMid, fun _ _ h => h, ?_⟩
              conv => whnf
              refine ldS 0 rfl rfl ?_
              conv => whnf
              refine c_accounts _ q _ (hq'.mono (hle_app _ _ _)) _ ?_
              intro b hb
              obtain ⟨bp, bn, bc, rfl⟩ := hb.slice
              refine ⟨_, _ :: _, weakMid, fun _ _ h => h, ?_⟩
              conv => whnf
              refine c_CloneI _ (ints o) _ (ho'.mono (hle_app _ _ _)).reads (ints_one o) (by rw [ints_length]; omega) _ ?_
              intro c hc
              obtain ⟨cp, cn, cc, rfl⟩ := hc.slice
              refine ⟨_, _ :: _, weakMid, fun _ _ h => h, ?_⟩
              conv => whnf
              refine ⟨p.length, rfl, rfl, by omega, by simp [maxLen]; omega, fun gd => ?_⟩
              rw [repZ_bools]
              conv => whnf
              intro gb
              conv => whnf
              refine ⟨_, Weak.perm List.perm_append_comm, ?_⟩
              conv => whnf
              refine ⟨rfl, ?_⟩
              conv => whnf
              refine fin (H' := ⟨H.M, bkA _ _ _ _ _ (newB p o q) ++ H.L⟩) ?_ (hok gb _ _ _ (.slice (some ⟨gd, 0, none⟩) p.length p.length) ⟨ha, hb, hc, .inr ⟨_, _, _, _, rfl, by simp [bools_length, newB], Nat.le_refl _, by simp [maxLen]; omega⟩⟩)
              exact (weakDel 5 rfl).trans (weakPull [0, 3, 2, 1, 0] rfl)
end Go.Proofs.Ytpblnfldhicfgaa.A
