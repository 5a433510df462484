/- Books: Remove, Copy. -/
import Derived.Test.YtpblnfldhicfgaaB10
namespace Go.Proofs.Ytpblnfldhicfgaa.A
open Go Go.RowKit
set_option linter.unusedVariables false
set_option linter.unusedSimpArgs false
set_option maxRecDepth 4000

/-- A store into a row that is owned. -/
theorem stW {L : List Atom} {g o o' n cap e sz : Nat} {xs xs' vs : List Value} {Φ : List Atom → Prop} (i : Nat) (h : L[i]? = some (.row (.slice (some ⟨g, o', none⟩) n cap) e sz xs)) (k : Nat) (hk : o = o' + k) (hl : k + vs.length ≤ xs.length)
    (h1 : oneCells vs) (hx : setN xs k vs = xs') (hΦ : Φ (L.set i (.row (.slice (some ⟨g, o', none⟩) n cap) e sz xs'))) : oneCells vs ∧ ∃ L', StoreTo L g o vs L' ∧ Φ L' := by
  subst hk hx
  exact ⟨h1, _, .inr ⟨i, o', n, cap, e, sz, xs, h, by omega, by omega, by rw [Nat.add_sub_cancel_left]⟩, hΦ⟩
def getb (l : List Bool) (i : Int) : Bool := l.getD i.toNat false
theorem boolsAt {H : Hp} {v : Value} {l : List Bool} (h : Reads H v 1 (bools l)) : ∃ p c, v = .slice p l.length c ∧
    ∀ i : Int, 0 ≤ i → i < l.length → ∃ g o, p = some ⟨g, o, none⟩ ∧ H.cell g (o + i.toNat * 1) (.bool (getb l i)) := by
  obtain ⟨p, n, c, rfl, hnc, hl, hc⟩ := h
  rw [bools_length, Nat.mul_one] at hl
  subst hl
  refine ⟨p, c, rfl, fun i h0 h1 => ?_⟩
  obtain ⟨g, o, rfl, hcells⟩ := hc (by omega)
  refine ⟨g, o, rfl, ?_⟩
  rw [Nat.mul_one]
  have hlt : i.toNat < l.length := by omega
  refine hcells i.toNat _ ?_
  simp [bools, getb, List.getD_eq_getElem?_getD, List.getElem?_eq_getElem hlt]
theorem bools_set (l : List Bool) (k : Nat) (b : Bool) : setN (bools l) k [.bool b] = bools (l.set k b) := by simp [setN, bools]
def remB (B : Bk) (i : Int) : Bk × Int := if i < 0 ∨ i ≥ B.lim.length then (B, 6) else if getb B.rem i = true then (B, 7) else ({ B with rem := B.rem.set i.toNat true }, 0)
theorem okB.rm {B : Bk} (h : okB B) (i : Int) : okB (remB B i).1 := by
  unfold remB
  split
  · exact h
  · split
    · exact h
    · exact ⟨h.l1, h.l2, by simp [h.l3], h.l4, h.n1, h.n2, h.lim, h.sp, h.own, h.most, h.owed⟩

theorem c_Remove (g : Nat) (a b c d : Value) (B : Bk) (i : Int) (M : Nat → Option Obj) (L : List Atom) (hB : okB B) (hV : BkV a b c d B) (R : Ending → Hp → Prop)
    (hR : BkV a b c d (remB B i).1 → R (.returned (.int .i64 (remB B i).2)) ⟨M, bkA g a b c d (remB B i).1 ++ L⟩) :
    ACalls Try.prog 29 [ptr g, .int .i64 i] ⟨M, bkA g a b c d B ++ L⟩ R := by
  have hb := bkAt (M := M) (L := L) (g := g) hV
  obtain ⟨pa, ca, rfl, hca⟩ := accsAt hB.l1 hb.a
  obtain ⟨pd, cd, rfl, hcd⟩ := boolsAt hb.d
  have hl3 := hB.l3
  unfold remB at hR
  refine acalls_code hT Try.func29 rfl rfl ?_
  conv => whnf
  refine ifC_dec (fun c1 => ?_) (fun c1 => ?_)
  · conv => whnf
    refine ⟨rfl, ?_⟩
    conv => whnf
    rw [if_pos (by omega)] at hR
    exact fin (Weak.refl _) (hR hV)
  · conv => whnf
    refine ⟨_, hb.h 0 _ rfl, ?_⟩
    conv => whnf
    refine ifC_dec (fun c2 => ?_) (fun c2 => ?_)
    · conv => whnf
      refine ⟨rfl, ?_⟩
      conv => whnf
      rw [if_pos (by omega)] at hR
      exact fin (Weak.refl _) (hR hV)
    · rw [if_neg (by omega)] at hR
      conv => whnf
      refine ⟨_, hb.h 3 _ rfl, ?_⟩
      conv => whnf
      obtain ⟨gd, od, rfl, h1⟩ := hcd i (by omega) (by omega)
      refine ⟨gd, od, rfl, by omega, ?_⟩
      conv => whnf
      refine ⟨_, h1, ?_⟩
      conv => whnf
      refine ifC_cases (fun h2 => ?_) (fun h2 => ?_)
      · conv => whnf
        refine ⟨rfl, ?_⟩
        conv => whnf
        rw [if_pos h2] at hR
        exact fin (Weak.refl _) (hR hV)
      · conv => whnf
        refine ⟨_, hb.h 3 _ rfl, ?_⟩
        conv => whnf
        refine ⟨gd, od, rfl, by omega, ?_⟩
        conv => whnf
        refine stW 4 rfl i.toNat (by rw [Nat.mul_one]) (by simp [bools_length]; omega) ⟨rfl, trivial⟩ (bools_set _ _ _) ?_
        conv => whnf
        refine ⟨rfl, ?_⟩
        conv => whnf
        rw [if_neg (by simp [h2])] at hR
        refine fin (Weak.refl _) (hR ⟨hV.a, hV.b, hV.c, ?_⟩)
        have := hV.d
        rcases this with ⟨h, _⟩ | ⟨g', o', n', c', h, h3, h4, h5⟩
        · cases h
        · exact .inr ⟨g', o', n', c', h, by simpa [bools_length] using h3, h4, h5⟩

theorem accs_one (l m : List Fr) : ∀ u ∈ accs l m, u.oneCell' = true := by
  intro u hu
  simp only [accs, List.mem_flatMap, Fr.cs] at hu
  obtain ⟨a, _, h⟩ := hu
  simp at h
  rcases h with rfl | rfl | rfl | rfl <;> rfl
theorem c_Copy (g : Nat) (a b c d : Value) (B : Bk) (H : Hp) (hB : okB B) (hb : BkAt H g a b c d B) (R : Ending → Hp → Prop)
    (hR : ∀ g' a' b' c' d', BkV a' b' c' d' B → R (.returned (ptr g')) ⟨H.M, bkA g' a' b' c' d' B ++ H.L⟩) : ACalls Try.prog 25 [ptr g] H R := by
  have l1 := hB.l1; have l2 := hB.l2; have l3 := hB.l3; have l4 := hB.l4; have n1 := hB.n1; have n2 := hB.n2
  refine acalls_code hT Try.func25 rfl rfl ?_
  conv => whnf
  refine awp_draw hT hM 22 (List.range 22) (by kernel_rfl) H.M H.L [] (by rw [List.append_nil]; exact Weak.refl _) ?_
  conv => whnf
  refine ⟨_, hb.h 0 _ rfl, ?_⟩
  conv => whnf
  refine c_CloneA a _ _ (hb.a.mono (hle_app _ _ _)) (accs_one _ _) (by rw [accs_length l1]; omega) _ ?_
  intro a' ha
  obtain ⟨ap, an, ac, rfl⟩ := ha.slice
  refine ⟨_, _ :: _, weakMid, fun _ _ h => h, ?_⟩
  conv => whnf
  refine ⟨_, hb.h 1 _ rfl, ?_⟩
  conv => whnf
  refine c_CloneA b _ _ (hb.b.mono (hle_app _ _ _)) (accs_one _ _) (by rw [accs_length l4]; omega) _ ?_
  intro b' hb'
  obtain ⟨bp, bn, bc, rfl⟩ := hb'.slice
  refine ⟨_, _ :: _, weakMid, fun _ _ h => h, ?_⟩
  conv => whnf
  refine ⟨_, hb.h 2 _ rfl, ?_⟩
  conv => whnf
  refine c_CloneI c _ _ (hb.c.mono (hle_app _ _ _)) (ints_one _) (by rw [ints_length]; omega) _ ?_
  intro c' hc
  obtain ⟨cp, cn, cc, rfl⟩ := hc.slice
  refine ⟨_, _ :: _, weakMid, fun _ _ h => h, ?_⟩
  conv => whnf
  refine ⟨_, hb.h 3 _ rfl, ?_⟩
  conv => whnf
  refine c_CloneB d _ _ (hb.d.mono (hle_app _ _ _)) (bools_one _) (by rw [bools_length]; omega) _ ?_
  intro d' hd
  obtain ⟨dp, dn, dc, rfl⟩ := hd.slice
  refine ⟨_, _ :: _, weakMid, fun _ _ h => h, ?_⟩
  conv => whnf
  intro gb
  conv => whnf
  refine ⟨_, Weak.perm List.perm_append_comm, ?_⟩
  conv => whnf
  refine ⟨rfl, ?_⟩
  conv => whnf
  exact fin (H' := ⟨H.M, bkA _ _ _ _ _ B ++ H.L⟩) (weakPull [0, 3, 2, 1, 0] rfl) (hR gb _ _ _ _ ⟨ha, hb', hc, hd⟩)
end Go.Proofs.Ytpblnfldhicfgaa.A
