/- dioramaref26: Rising, Stale, Base; the reference's book in memory. -/
import Derived.Test.YtjgljgkfflojbaaD19
namespace Go.Proofs.Ytjgljgkfflojbaa.A
open Go Go.RowKit
set_option linter.unusedVariables false
set_option linter.unusedSimpArgs false
set_option maxRecDepth 20000

theorem c_Rising26 (v : Value) (l : List Int) (n : Int) (H : Hp) (hv : IntsAt H v l) (R : Ending → Hp → Prop) (hR : R (.returned (.bool (riseF (-1) n l))) H) : ACalls Try.prog 59 [v, .int .i64 n] H R := by
  obtain ⟨p, c, rfl, hlc, hc⟩ := hv.open
  have hb := hv.len
  refine acalls_code hT Try.func59 rfl rfl ?_
  conv => whnf
  refine awp_loopL hT 42 [0, 1, 5] (fun m vs H' => ∃ (k : Nat) (last : Int), vs = [.slice p l.length c, .int .i64 n, .int .i64 k] ∧ m + k = l.length ∧ riseF (-1) n l = riseF last n (l.drop k) ∧ ((k = 0 ∧ last = -1) ∨ (0 < k ∧ 0 ≤ last ∧ last = geti l ((k : Int) - 1))) ∧ H' = H) l.length rfl rfl (Weak.refl _) ⟨0, -1, rfl, rfl, rfl, .inl ⟨rfl, rfl⟩, rfl⟩ ?_
  rintro m u vs H' ⟨k, last, rfl, hk, ht, hlast, rfl⟩
  conv => whnf
  refine ifC_dec (fun h1 => ?_) (fun h1 => ?_)
  · have hkl : k < l.length := by omega
    rw [List.drop_eq_getElem_cons hkl, riseF, ← geti_at hkl] at ht
    obtain ⟨g, o, rfl, hcell⟩ := hc k (by omega) (by omega)
    have hcell2 : 0 < k → H'.cell g (o + ((k : Int) - 1).toNat * 1) (.int .i64 (geti l ((k : Int) - 1))) := fun h0 => by
      obtain ⟨g', o', e, h⟩ := hc ((k : Int) - 1) (by omega) (by omega)
      cases e
      exact h
    conv => whnf
    refine awp_drawQ hT hM 30 (by kernel_rfl) ?_
    conv => whnf
    refine ⟨g, o, rfl, by omega, ?_⟩
    conv => whnf
    refine ⟨_, hcell, ?_⟩
    conv => whnf
    refine ifC_dec (fun h2 => ?_) (fun h2 => ?_)
    · conv => whnf
      refine ⟨rfl, ?_⟩
      conv => whnf
      rw [if_pos (by omega)] at ht
      rw [ht] at hR
      exact fin (Weak.refl _) hR
    · conv => whnf
      refine ⟨g, o, rfl, by omega, ?_⟩
      conv => whnf
      refine ⟨_, hcell, ?_⟩
      conv => whnf
      refine ifC_dec (fun h3 => ?_) (fun h3 => ?_)
      · conv => whnf
        refine ⟨rfl, ?_⟩
        conv => whnf
        rw [if_pos (by omega)] at ht
        rw [ht] at hR
        exact fin (Weak.refl _) hR
      · conv => whnf
        refine ifC_dec (fun h4 => ?_) (fun h4 => ?_)
        · conv => whnf
          refine ⟨g, o, rfl, by omega, ?_⟩
          conv => whnf
          refine ⟨_, hcell, ?_⟩
          conv => whnf
          repeat (refine ⟨_, wi (by omega), ?_⟩; conv => whnf)
          rw [show (if (0 : Int) > (k : Int) - 1 then (0 : Int) else (k : Int) - 1) = (k : Int) - 1 from if_neg (by omega)]
          refine ⟨g, o, rfl, by omega, ?_⟩
          conv => whnf
          refine ⟨_, hcell2 (by omega), ?_⟩
          conv => whnf
          refine ifC_dec (fun h5 => ?_) (fun h5 => ?_)
          · conv => whnf
            refine ⟨rfl, ?_⟩
            conv => whnf
            rw [if_pos (by omega)] at ht
            rw [ht] at hR
            exact fin (Weak.refl _) hR
          · rw [if_neg (by omega)] at ht
            conv => whnf
            repeat (refine ⟨_, wi (by omega), ?_⟩; conv => whnf)
            exact ⟨rfl, rfl, m - 1, _, by omega, Weak.refl _, k + 1, _, rfl, by omega, ht, .inr ⟨by omega, by omega, by rw [show ((k + 1 : Nat) : Int) - 1 = k by omega]⟩, rfl⟩
        · rw [if_neg (by omega)] at ht
          conv => whnf
          repeat (refine ⟨_, wi (by omega), ?_⟩; conv => whnf)
          exact ⟨rfl, rfl, m - 1, _, by omega, Weak.refl _, k + 1, _, rfl, by omega, ht, .inr ⟨by omega, by omega, by rw [show ((k + 1 : Nat) : Int) - 1 = k by omega]⟩, rfl⟩
  · rw [List.drop_eq_nil_of_le (by omega)] at ht
    rw [ht] at hR
    conv => whnf
    refine ⟨rfl, ?_⟩
    conv => whnf
    exact fin (Weak.refl _) hR

/-! ### The reference's book in memory -/
def rtc (x : TV) : List Value := [x.fv, x.pv]
def rts (ts : List TV) : List Value := ts.flatMap rtc
def rbs (ts : List TV) : List Value := ts.map (·.bv)
def rus (ts : List TV) : List Value := bools (ts.map (·.t.u))
theorem rts_append (l m : List TV) : rts (l ++ m) = rts l ++ rts m := by simp [rts]
theorem rts_length (l : List TV) : (rts l).length = l.length * 2 := by
  induction l with
  | nil => rfl
  | cons c cs ih => simp only [rts, List.flatMap_cons, List.length_append, List.length_cons] at *; rw [ih]; simp [rtc]; omega
theorem rbs_append (l m : List TV) : rbs (l ++ m) = rbs l ++ rbs m := by simp [rbs]
theorem rbs_length (l : List TV) : (rbs l).length = l.length := by simp [rbs]
theorem rus_append (l m : List TV) : rus (l ++ m) = rus l ++ rus m := by simp [rus, bools]
theorem rus_length (l : List TV) : (rus l).length = l.length := by simp [rus, bools]
def rfA (g : Nat) (tv bv uv gv : Value) (ts : List TV) (gone : List Int) : List Atom :=
  [.cells g 54 [tv, bv, uv, gv], .row tv 40 2 (rts ts), .row bv 22 1 (rbs ts), .row uv 4 1 (rus ts), .row gv 3 1 (ints gone)]
structure RfV (tv bv uv gv : Value) (ts : List TV) (gone : List Int) : Prop where
  t : RowVal tv 2 (rts ts)
  b : RowVal bv 1 (rbs ts)
  u : RowVal uv 1 (rus ts)
  g : RowVal gv 1 (ints gone)
structure RfAt (H : Hp) (g : Nat) (tv bv uv gv : Value) (ts : List TV) (gone : List Int) : Prop where
  h : CellsAt H g 0 [tv, bv, uv, gv]
  t : Reads H tv 2 (rts ts)
  b : Reads H bv 1 (rbs ts)
  u : Reads H uv 1 (rus ts)
  g : Reads H gv 1 (ints gone)
  l : ∀ x ∈ ts, ThAt H x
theorem rfIn {M : Nat → Option Obj} {L : List Atom} {g : Nat} {tv bv uv gv : Value} {ts : List TV} {gone : List Int} (hv : RfV tv bv uv gv ts gone) (hl : ∀ x ∈ ts, ThAt ⟨M, L⟩ x) (hL : ∀ a ∈ rfA g tv bv uv gv ts gone, a ∈ L) : RfAt ⟨M, L⟩ g tv bv uv gv ts gone :=
  ⟨fun j v hj => .inr ⟨.cells g 54 [tv, bv, uv, gv], hL _ (by simp [rfA]), rfl, by simpa using hj⟩, readsRow (e := 40) (hL _ (by simp [rfA])) hv.t, readsRow (e := 22) (hL _ (by simp [rfA])) hv.b,
    readsRow (e := 4) (hL _ (by simp [rfA])) hv.u, readsRow (e := 3) (hL _ (by simp [rfA])) hv.g, hl⟩
theorem RfAt.sub {M : Nat → Option Obj} {L L' : List Atom} {g : Nat} {tv bv uv gv : Value} {ts : List TV} {gone : List Int} (h : RfAt ⟨M, L⟩ g tv bv uv gv ts gone) (hL : ∀ a ∈ L, a ∈ L') : RfAt ⟨M, L'⟩ g tv bv uv gv ts gone :=
  ⟨h.h.mono (hle_sub hL), h.t.mono (hle_sub hL), h.b.mono (hle_sub hL), h.u.mono (hle_sub hL), h.g.mono (hle_sub hL), fun x hx => (h.l x hx).mono (hle_sub hL)⟩
theorem rbAt {H : Hp} {v : Value} {ts : List TV} (hr : Reads H v 1 (rbs ts)) : ∃ p c, v = .slice p ts.length c ∧ ∀ k (hk : k < ts.length), ∃ g o, p = some ⟨g, o, none⟩ ∧ H.cell g (o + k * 1) ts[k].bv := by
  obtain ⟨p, n, c, rfl, hnc, hl, hc⟩ := hr
  rw [rbs_length, Nat.mul_one] at hl
  subst hl
  refine ⟨p, c, rfl, fun k hk => ?_⟩
  obtain ⟨g, o, rfl, hcells⟩ := hc (by omega)
  refine ⟨g, o, rfl, ?_⟩
  rw [Nat.mul_one]
  exact hcells k _ (by simp [rbs, hk])
theorem ruAt {H : Hp} {v : Value} {ts : List TV} (hr : Reads H v 1 (rus ts)) : ∃ p c, v = .slice p ts.length c ∧ ∀ k (hk : k < ts.length), ∃ g o, p = some ⟨g, o, none⟩ ∧ H.cell g (o + k * 1) (.bool ts[k].t.u) := by
  obtain ⟨p, n, c, rfl, hnc, hl, hc⟩ := hr
  rw [rus_length, Nat.mul_one] at hl
  subst hl
  refine ⟨p, c, rfl, fun k hk => ?_⟩
  obtain ⟨g, o, rfl, hcells⟩ := hc (by omega)
  refine ⟨g, o, rfl, ?_⟩
  rw [Nat.mul_one]
  exact hcells k _ (by simp [rus, bools, hk])
theorem rtAt {H : Hp} {v : Value} {ts : List TV} (hr : Reads H v 2 (rts ts)) : ∃ p c, v = .slice p ts.length c ∧ ∀ k (hk : k < ts.length), ∃ g o, p = some ⟨g, o, none⟩ ∧ CellsAt H g (o + k * 2) (rtc ts[k]) :=
  flatAt rtc (fun _ => rfl) (by omega) hr

theorem c_Stale26 (g : Nat) (tv bv uv gv : Value) (ts : List TV) (gone : List Int) (v : Value) (l : List Int) (H : Hp) (hb : RfAt H g tv bv uv gv ts gone) (hv : IntsAt H v l) (hl : ∀ x ∈ l, 0 ≤ x ∧ x < ts.length) (R : Ending → Hp → Prop)
    (hR : R (.returned (.bool (staleS (stOf ts gone) l))) H) : ACalls Try.prog 57 [ptr g, v] H R := by
  obtain ⟨p, c, rfl, hlc, hc⟩ := hv.open
  have hlen := hv.len
  obtain ⟨pu, cu, rfl, hcu⟩ := ruAt hb.u
  refine acalls_code hT Try.func57 rfl rfl ?_
  conv => whnf
  refine awp_loopL hT 23 [0, 1, 5] (fun m vs H' => ∃ k : Nat, vs = [ptr g, .slice p l.length c, .int .i64 k] ∧ m + k = l.length ∧ (l.take k).any (fun i => !((stOf ts gone).th i).u) = false ∧ H' = H) l.length rfl rfl (Weak.refl _) ⟨0, rfl, rfl, rfl, rfl⟩ ?_
  rintro m u vs H' ⟨k, rfl, hk, ht, rfl⟩
  conv => whnf
  refine ifC_dec (fun h1 => ?_) (fun h1 => ?_)
  · have hkl : k < l.length := by omega
    have hg := geti_at hkl
    obtain ⟨q, o, rfl, hcell⟩ := hc k (by omega) (by omega)
    have hx := hl _ (geti_mem (l := l) (i := (k : Int)) (by omega) (by omega))
    obtain ⟨j, hj⟩ : ∃ j : Nat, geti l k = j := ⟨(geti l k).toNat, by omega⟩
    rw [hj] at hx hcell
    have hjt : j < ts.length := by omega
    obtain ⟨qu, ou, rfl, hcellu⟩ := hcu j hjt
    have hth : ((stOf ts gone).th l[k]).u = ts[j].t.u := by rw [← hg, hj, th_at hjt]
    conv => whnf
    refine awp_drawQ hT hM 11 (by kernel_rfl) ?_
    conv => whnf
    refine ⟨_, hb.h 2 _ rfl, ?_⟩
    conv => whnf
    refine ⟨q, o, rfl, by omega, ?_⟩
    conv => whnf
    refine ⟨_, hcell, ?_⟩
    conv => whnf
    refine ⟨qu, ou, rfl, by omega, ?_⟩
    conv => whnf
    refine ⟨_, hcellu, ?_⟩
    conv => whnf
    cases hu : ts[j].t.u with
    | true =>
      conv => whnf
      repeat (refine ⟨_, wi (by omega), ?_⟩; conv => whnf)
      exact ⟨rfl, rfl, m - 1, _, by omega, Weak.refl _, k + 1, rfl, by omega, any_step hkl ht (by rw [hth, hu]; rfl), rfl⟩
    | false =>
      conv => whnf
      refine ⟨rfl, ?_⟩
      conv => whnf
      refine fin (Weak.refl _) ?_
      have : staleS (stOf ts gone) l = true := List.any_eq_true.2 ⟨l[k], List.getElem_mem hkl, by rw [hth, hu]; rfl⟩
      rw [this] at hR
      exact hR
  · conv => whnf
    refine ⟨rfl, ?_⟩
    conv => whnf
    have : k = l.length := by omega
    subst this
    rw [List.take_length] at ht
    rw [show staleS (stOf ts gone) l = false from ht] at hR
    exact fin (Weak.refl _) hR

theorem norm_app (a b : List Int) : norm (norm a ++ b) = norm (a ++ b) := norm_eq (norm_inc _).1 fun x => by
  rw [(norm_inc _).2, List.mem_append, List.mem_append, (norm_inc a).2]
theorem c_Base26 (g : Nat) (tv bv uv gv : Value) (ts : List TV) (gone : List Int) (fv pv : Value) (f p : List Int) (H : Hp) (hh : CellsAt H g 0 [tv, bv, uv, gv]) (hbr : Reads H bv 1 (rbs ts)) (hbl0 : ∀ x ∈ ts, Reads H x.bv 1 (ints x.t.b)) (ho : okTs ts) (hf : IntsAt H fv f) (hp : IntsAt H pv p)
    (hfl : f.length ≤ 256) (hpl : p.length ≤ 512) (hpb : ∀ x ∈ p, 0 ≤ x ∧ x < 65536) (hin : ∀ x ∈ f, 0 ≤ x ∧ x < ts.length) (R : Ending → Hp → Prop)
    (hR : ∀ v', RowVal v' 1 (ints (norm (baseL (stOf ts gone) f p))) → R (.returned v') ⟨H.M, .row v' 3 1 (ints (norm (baseL (stOf ts gone) f p))) :: H.L⟩) :
    ACalls Try.prog 58 [ptr g, .agg #[fv, pv]] H R := by
  obtain ⟨pf, cf, rfl, hfc, hcf⟩ := hf.open
  obtain ⟨pb, cb, rfl, hcb⟩ := rbAt hbr
  have hbl : ∀ k, ∀ x ∈ norm (baseL (stOf ts gone) (f.take k) p), 0 ≤ x ∧ x < 65536 := fun k x hx => by
    have hx := ((norm_inc _).2 x).1 hx
    unfold baseL at hx
    rcases List.mem_append.1 hx with hx | hx
    · exact hpb x hx
    · obtain ⟨i, hi, hx⟩ := List.mem_flatMap.1 hx
      have := hin i (List.mem_of_mem_take hi)
      obtain ⟨j, rfl⟩ : ∃ j : Nat, i = j := ⟨i.toNat, by omega⟩
      rw [th_at (show j < ts.length by omega)] at hx
      exact ho.bb _ (List.getElem_mem _) x hx
  have hnl : ∀ k, (norm (baseL (stOf ts gone) (f.take k) p)).length ≤ 65536 := fun k => inc_len (norm_inc _).1 (hbl k)
  refine acalls_code hT Try.func58 rfl rfl ?_
  conv => whnf
  intro gx
  conv => whnf
  refine ldS 0 rfl rfl ?_
  conv => whnf
  refine c_Both pv _ p [] _ (hp.mono (HLe.cons H _)) (nilI _) (fun x hx => by rw [List.append_nil] at hx; have := hpb x hx; omega) (by simp; omega) _ ?_
  intro ov hov
  obtain ⟨o1, o2, o3, rfl⟩ := hov.slice
  conv => whnf
  refine awp_loopL hT 31 [0, 3, 5, 6] (fun m vs H' => ∃ (k : Nat) (ov : Value), vs = [ptr g, ptr gx, ov, .int .i64 k] ∧ m + k = f.length ∧ RowVal ov 1 (ints (norm (baseL (stOf ts gone) (f.take k) p))) ∧
    H' = ⟨H.M, .row ov 3 1 (ints (norm (baseL (stOf ts gone) (f.take k) p))) :: .cells gx 40 [.slice pf f.length cf, pv] :: H.L⟩) f.length rfl rfl (Weak.refl _) ⟨0, _, rfl, rfl, by simpa [baseL] using hov, by simp [baseL]⟩ ?_
  clear hov
  rintro m u vs H' ⟨k, ov, rfl, hk, hov, rfl⟩
  obtain ⟨o1, o2, o3, rfl⟩ := hov.slice
  conv => whnf
  refine ldS 1 rfl rfl ?_
  conv => whnf
  refine ifC_dec (fun h1 => ?_) (fun h1 => ?_)
  · have hkl : k < f.length := by omega
    have htk : norm (baseL (stOf ts gone) (f.take (k + 1)) p) = norm (norm (baseL (stOf ts gone) (f.take k) p) ++ ((stOf ts gone).th (geti f k)).b) := by
      rw [norm_app, List.take_succ_eq_append_getElem hkl, baseL_snoc, geti_at hkl]
    obtain ⟨gf, of', rfl, hcell⟩ := hcf k (by omega) (by omega)
    have hinx := hin _ (geti_mem (l := f) (i := (k : Int)) (by omega) (by omega))
    obtain ⟨j, hj⟩ : ∃ j : Nat, geti f k = j := ⟨(geti f k).toNat, by omega⟩
    rw [hj] at hinx htk hcell
    have hjl : j < ts.length := by omega
    rw [th_at hjl] at htk
    obtain ⟨gt, ot, rfl, hce⟩ := hcb j hjl
    have hbk := hbl k
    have hbk1 := hnl k
    generalize hacc : norm (baseL (stOf ts gone) (f.take k) p) = acc at *
    conv => whnf
    refine awp_draw hT hM 13 (List.range 13) (by kernel_rfl) H.M (.row (.slice o1 o2 o3) 3 1 (ints acc) :: .cells gx 40 [.slice (some ⟨gf, of', none⟩) f.length cf, pv] :: H.L) [] (by rw [List.append_nil]; exact Weak.refl _) ?_
    conv => whnf
    have hle : HLe H ⟨H.M, .row (.slice o1 o2 o3) 3 1 (ints acc) :: .cells gx 40 [.slice (some ⟨gf, of', none⟩) f.length cf, pv] :: H.L⟩ := hle_sub fun a ha => by simp [ha]
    refine ⟨_, hh.mono hle 1 _ rfl, ?_⟩
    conv => whnf
    refine ldS 1 rfl rfl ?_
    conv => whnf
    refine ⟨gf, of', rfl, by omega, ?_⟩
    conv => whnf
    refine ⟨_, hle.cell hcell, ?_⟩
    conv => whnf
    refine ⟨gt, ot, rfl, by omega, ?_⟩
    conv => whnf
    refine ⟨_, hle.cell hce, ?_⟩
    conv => whnf
    have hbb := ho.bb _ (List.getElem_mem hjl)
    have hb2 := ho.b _ (List.getElem_mem hjl)
    refine c_Both _ _ acc ts[j].t.b _ ⟨(readsRow (e := 3) (by simp) hov), fun x hx => by have := hbk x hx; omega, by omega⟩ ⟨((hbl0 _ (List.getElem_mem hjl)).mono (hle.trans (hle_app _ _ _))), fun x hx => by have := hbb x hx; omega, by omega⟩ (fun x hx => (List.mem_append.1 hx).elim (fun hx => by have := hbk x hx; omega) fun hx => by have := hbb x hx; omega) (by omega) _ ?_
    rw [← htk]
    intro v' hv'
    refine ⟨_, _ :: _, weakMid, fun _ _ h => h, ?_⟩
    conv => whnf
    refine ⟨_, Weak.perm List.perm_append_comm, ?_⟩
    conv => whnf
    repeat (refine ⟨_, wi (by omega), ?_⟩; conv => whnf)
    exact ⟨rfl, rfl, m - 1, _, by omega, weakDel 1 rfl, k + 1, v', rfl, by omega, hv', rfl⟩
  · have hke : k = f.length := by omega
    subst hke
    rw [List.take_length] at *
    conv => whnf
    refine ⟨rfl, ?_⟩
    conv => whnf
    exact fin (weakDel 1 rfl) (hR _ hov)
end Go.Proofs.Ytjgljgkfflojbaa.A
