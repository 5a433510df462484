/- consent: rising, stale, base; dioramaref26: Has. -/
import Derived.Test.YtjgljgkfflojbaaD1
import Derived.Test.YtjgljgkfflojbaaSameInts
namespace Go.Proofs.Ytjgljgkfflojbaa.A
open Go Go.RowKit
set_option linter.unusedVariables false
set_option linter.unusedSimpArgs false
set_option maxRecDepth 20000

theorem c_rising (v : Value) (l : List Int) (n : Int) (H : Hp) (hv : IntsAt H v l) (R : Ending → Hp → Prop) (hR : R (.returned (.bool (riseF (-1) n l))) H) : ACalls Try.prog 30 [v, .int .i64 n] H R := by
  obtain ⟨p, c, rfl, hlc, hc⟩ := hv.open
  have hb := hv.len
  refine acalls_code hT Try.func30 rfl rfl ?_
  conv => whnf
  refine awp_loopL hT 24 [1, 5, 8, 9, 10] (fun m vs H' => ∃ (k : Nat) (last : Int), vs = [.int .i64 n, .int .i64 last, .slice p l.length c, .int .i64 l.length, .int .i64 k] ∧ m + k = l.length ∧ riseF (-1) n l = riseF last n (l.drop k) ∧ H' = H) l.length rfl rfl (Weak.refl _) ⟨0, -1, rfl, rfl, rfl, rfl⟩ ?_
  rintro m u vs H' ⟨k, last, rfl, hk, ht, rfl⟩
  conv => whnf
  refine ifC_dec (fun h1 => ?_) (fun h1 => ?_)
  · have hkl : k < l.length := by omega
    rw [List.drop_eq_getElem_cons hkl, riseF, ← geti_at hkl] at ht
    conv => whnf
    obtain ⟨g, o, rfl, hcell⟩ := hc k (by omega) (by omega)
    refine ⟨g, o, rfl, by omega, ?_⟩
    conv => whnf
    refine ⟨_, hcell, ?_⟩
    conv => whnf
    refine ifC_dec (fun h2 => ?_) (fun h2 => ?_)
    · rw [if_pos (by omega)] at ht
      rw [ht] at hR
      conv => whnf
      refine ⟨rfl, ?_⟩
      conv => whnf
      exact fin (Weak.refl _) hR
    · conv => whnf
      refine ifC_dec (fun h3 => ?_) (fun h3 => ?_)
      · rw [if_pos (by omega)] at ht
        rw [ht] at hR
        conv => whnf
        refine ⟨rfl, ?_⟩
        conv => whnf
        exact fin (Weak.refl _) hR
      · rw [if_neg (by omega)] at ht
        conv => whnf
        repeat (refine ⟨_, wi (by omega), ?_⟩; conv => whnf)
        exact ⟨rfl, rfl, m - 1, _, by omega, Weak.refl _, k + 1, _, rfl, by omega, ht, rfl⟩
  · rw [List.drop_eq_nil_of_le (by omega)] at ht
    rw [ht] at hR
    conv => whnf
    refine ⟨rfl, ?_⟩
    conv => whnf
    exact fin (Weak.refl _) hR

/-! ### A book in memory -/
structure TV where
  fv : Value
  pv : Value
  bv : Value
  t : Th
def tvc (x : TV) : List Value := [x.fv, x.pv, x.bv, .bool x.t.u]
def tvs (ts : List TV) : List Value := ts.flatMap tvc
def gmap (gone : List Int) : List (Int × Value) := gone.map fun x => (x, .bool true)
def cbA (g : Nat) (tv : Value) (r : Nat) (ts : List TV) (gone : List Int) : List Atom := [.cells g 76 [tv, .map (some r)], .row tv 82 4 (tvs ts), .obj r (imapObj (gmap gone))]
structure ThAt (H : Hp) (x : TV) : Prop where
  f : Reads H x.fv 1 (ints x.t.f)
  p : Reads H x.pv 1 (ints x.t.p)
  b : Reads H x.bv 1 (ints x.t.b)
theorem ThAt.mono {H H' : Hp} {x : TV} (h : ThAt H x) (hl : HLe H H') : ThAt H' x := ⟨h.f.mono hl, h.p.mono hl, h.b.mono hl⟩
def stOf (ts : List TV) (gone : List Int) : St := ⟨ts.map (·.t), gone⟩
structure CbAt (H : Hp) (g : Nat) (tv : Value) (r : Nat) (ts : List TV) (gone : List Int) : Prop where
  h : CellsAt H g 0 [tv, .map (some r)]
  t : Reads H tv 4 (tvs ts)
  m : HasMap H r (gmap gone)
  l : ∀ x ∈ ts, ThAt H x
theorem tvs_length (ts : List TV) : (tvs ts).length = ts.length * 4 := by
  induction ts with
  | nil => rfl
  | cons c cs ih => simp only [tvs, List.flatMap_cons, List.length_append, List.length_cons] at *; rw [ih]; simp [tvc]; omega
theorem tvs_append (l m : List TV) : tvs (l ++ m) = tvs l ++ tvs m := by simp [tvs]
theorem tvs_cells {ts : List TV} {k : Nat} (hk : k < ts.length) : ((tvs ts).drop (k * 4)).take 4 = tvc ts[k] := by
  induction ts generalizing k with
  | nil => simp at hk
  | cons a l ih =>
    cases k with
    | zero => simp [tvs, tvc]
    | succ k =>
      have := ih (k := k) (by simpa using hk)
      rw [show (k + 1) * 4 = 4 + k * 4 by omega, ← List.drop_drop]
      simp only [tvs, List.flatMap_cons, tvc, List.cons_append, List.nil_append, List.drop_succ_cons, List.drop_zero, List.getElem_cons_succ] at *
      simpa using this
theorem tvsAt {H : Hp} {v : Value} {ts : List TV} (hr : Reads H v 4 (tvs ts)) : ∃ p c, v = .slice p ts.length c ∧
    ∀ k (hk : k < ts.length), ∃ g o, p = some ⟨g, o, none⟩ ∧ CellsAt H g (o + k * 4) (tvc ts[k]) := by
  obtain ⟨p, n, c, rfl, hnc, hl, hc⟩ := hr
  rw [tvs_length] at hl
  have hn : n = ts.length := by omega
  subst hn
  refine ⟨p, c, rfl, fun k hk => ?_⟩
  obtain ⟨g, o, rfl, hcells⟩ := hc (by omega)
  have := tvs_cells hk
  refine ⟨g, o, rfl, fun j v hj => ?_⟩
  rw [← this, List.getElem?_take] at hj
  split at hj
  · rw [List.getElem?_drop] at hj
    rw [Nat.add_assoc]; exact hcells _ _ hj
  · cases hj
theorem th_at {ts : List TV} {gone : List Int} {k : Nat} (hk : k < ts.length) : (stOf ts gone).th k = ts[k].t := by
  simp [St.th, stOf, List.getD_eq_getElem?_getD, hk]
theorem HasMap.mono {H H' : Hp} {r : Nat} {m : List (Int × Value)} (h : HasMap H r m) (hM : H.M = H'.M) (hL : ∀ a ∈ H.L, a ∈ H'.L) : HasMap H' r m := by
  rcases h with h | h
  · exact .inl (hM ▸ h)
  · exact .inr (hL _ h)
theorem CbAt.sub {M : Nat → Option Obj} {L L' : List Atom} {g : Nat} {tv : Value} {r : Nat} {ts : List TV} {gone : List Int} (h : CbAt ⟨M, L⟩ g tv r ts gone) (hL : ∀ a ∈ L, a ∈ L') : CbAt ⟨M, L'⟩ g tv r ts gone :=
  ⟨h.h.mono (hle_sub hL), h.t.mono (hle_sub hL), h.m.mono rfl hL, fun x hx => (h.l x hx).mono (hle_sub hL)⟩
theorem CellsAt.mono' {H H' : Hp} {g o : Nat} {vs : List Value} (h : CellsAt H g o vs) (hl : HLe H H') : CellsAt H' g o vs := h.mono hl

theorem c_stale1 (i : Int) (gb g : Nat) (tv : Value) (r : Nat) (ts : List TV) (gone : List Int) (H : Hp) (hc : H.cell gb 0 (ptr g)) (hb : CbAt H g tv r ts gone) (hi : 0 ≤ i ∧ i < ts.length) (R : Ending → Hp → Prop)
    (hR : R (.returned (.bool (!((stOf ts gone).th i).u))) H) : ACalls Try.prog 52 [.int .i64 i, ptr gb] H R := by
  obtain ⟨p, c, rfl, hcell⟩ := tvsAt hb.t
  obtain ⟨k, rfl⟩ : ∃ k : Nat, i = k := ⟨i.toNat, by omega⟩
  have hk : k < ts.length := by omega
  obtain ⟨gt, o, rfl, hce⟩ := hcell k hk
  rw [th_at hk] at hR
  refine acalls_code hT Try.func52 rfl rfl ?_
  conv => whnf
  refine ⟨_, hc, ?_⟩
  conv => whnf
  refine ⟨_, hb.h 0 _ rfl, ?_⟩
  conv => whnf
  refine ⟨gt, o, rfl, by omega, ?_⟩
  conv => whnf
  refine ⟨_, hce 3 _ rfl, ?_⟩
  conv => whnf
  refine ⟨rfl, ?_⟩
  conv => whnf
  exact fin (Weak.refl _) hR
theorem c_stale (g : Nat) (tv : Value) (r : Nat) (ts : List TV) (gone : List Int) (v : Value) (l : List Int) (H : Hp) (hb : CbAt H g tv r ts gone) (hv : IntsAt H v l) (hl : ∀ x ∈ l, 0 ≤ x ∧ x < ts.length) (R : Ending → Hp → Prop)
    (hR : R (.returned (.bool (staleS (stOf ts gone) l))) H) : ACalls Try.prog 33 [ptr g, v] H R := by
  refine acalls_code hT Try.func33 rfl rfl ?_
  conv => whnf
  intro gb
  conv => whnf
  refine c_ContainsFuncI v l _ (hv.mono (HLe.cons H _)) 52 #[ptr gb] (fun i => !((stOf ts gone).th i).u) (fun x hx R' hR' => c_stale1 x gb g tv r ts gone _ (cellOwn List.mem_cons_self rfl) (hb.sub (L := H.L) fun a ha => List.mem_cons_of_mem _ ha) (hl x hx) R' hR') _ ?_
  conv => whnf
  refine ⟨rfl, ?_⟩
  conv => whnf
  exact fin (weakK 1 rfl) hR
end Go.Proofs.Ytjgljgkfflojbaa.A
