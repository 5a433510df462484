/- ReleaseTables. -/
import Derived.Test.YtohdcmkooedkcaaT11
import Derived.Test.YtohdcmkooedkcaaT12
import Derived.Test.YtohdcmkooedkcaaT3
namespace Go.Proofs.Ytohdcmkooedkcaa.A
open Go Go.RowKit
set_option linter.unusedVariables false
set_option linter.unusedSimpArgs false
set_option maxRecDepth 20000

structure TV where
  sv : Value
  rv : Value
  sz : List Int
  rs : List RV
def tbc (x : TV) : List Value := [x.sv, x.rv]
def tbs (l : List TV) : List Value := l.flatMap tbc
theorem madeOk.sm {sz : List Int} {rs : List RV} (h : madeOk sz rs) : smT 10 sz rs := by
  refine ⟨by have := h.n1; omega, fun n hn => by have := h.s n hn; omega, by have := h.r; omega, fun x hx => ?_⟩
  have h1 := h.ok.row hx
  obtain ⟨_, _, _, h4, _⟩ := valid0 h.v
  have hb := badRw_iff.1 (by simpa using List.any_eq_false.1 h4 x.r (List.mem_map.2 ⟨x, hx, rfl⟩))
  have hl : x.r.vs.length = sz.length := by have := hb.1; show x.r.vs.length = (tbOf sz rs).sizes.length; omega
  exact ⟨h1.1, by have := h.n1; omega, h1.2.2⟩
theorem tdivI {a n : Int} (h : I64 a) (hn : 1 ≤ n) (hn2 : I64 n) : I64 (a.tdiv n) := by
  have h1 := Int.natAbs_tdiv a n
  have h2 : (a.tdiv n).natAbs ≤ a.natAbs := by rw [h1]; exact Nat.div_le_self _ _
  by_cases h0 : 0 ≤ a
  · omega
  · have e : a.tdiv n = -((-a).tdiv n) := by rw [Int.neg_tdiv, Int.neg_neg]
    have h3 := Int.tdiv_nonneg (a := -a) (b := n) (by omega) (by omega)
    omega
/-- The tables of a list, each in memory. -/
def TbsIn (M : Nat → Option Obj) (K : List Atom) (ts : List TV) : Prop := ∀ x ∈ ts, TbAt ⟨M, K⟩ x.sv x.rv x.sz x.rs ∧ okTb (tbOf x.sz x.rs)
theorem tbAt {H : Hp} {v : Value} {ts : List TV} (hr : Reads H v 2 (tbs ts)) : ∃ p c, v = .slice p ts.length c ∧ ∀ k (hk : k < ts.length), ∃ g o, p = some ⟨g, o, none⟩ ∧ CellsAt H g (o + k * 2) (tbc ts[k]) :=
  flatAt tbc (fun _ => rfl) (by omega) hr
theorem cellsOwn {H : Hp} {g : Nat} {e : TypeId} {cs : List Value} (h : Atom.cells g e cs ∈ H.L) : CellsAt H g 0 cs := fun j v hj => by
  rw [Nat.zero_add]
  exact cellOwn h hj
theorem personsT_ok {t : Tb} (h : okTb t) : (∀ x ∈ personsT t, I64 x) ∧ (personsT t).length ≤ 1000 := by
  unfold personsT
  split
  · refine ⟨fun x hx => ?_, by rw [srt_length]; unfold Tb.ps; rw [List.length_map]; exact h.rl⟩
    rw [mem_srt] at hx
    obtain ⟨r, hr, rfl⟩ := List.mem_map.1 hx
    exact h.rp r hr
  · simp
set_option maxHeartbeats 8000000 in
theorem c_ReleaseTables (v : Value) (l : List Int) (at' how by' pn : Int) (H : Hp) (hv : IntsAt H v l) (ha : I64 at') (hh : I64 how) (hy : I64 by') (hpn : I64 pn) (R : Ending → Hp → Prop) (hR : ∀ H', R (.returned (.bool true)) H') :
    ACalls Try.prog 3 [v, .int .i64 at', .int .i64 how, .int .i64 by', .int .i64 pn] H R := by
  obtain ⟨pv, cv, rfl, _⟩ := hv.open
  refine acalls_code hT Try.func3 rfl rfl ?_
  conv => whnf
  refine c_Made _ l _ hv _ fun sv rv sz rs N1 h1 m1 => ?_
  obtain ⟨a1, a2, a3, rfl⟩ := h1.s.slice
  obtain ⟨b1, b2, b3, rfl⟩ := h1.r.slice
  have s1 := m1.sm
  conv => whnf
  intro g11
  conv => whnf
  refine stC 0 rfl rfl (by first | (refine ⟨rfl, ?_⟩; repeat' (first | exact trivial | refine ⟨rfl, ?_⟩)) | simp [oneCells, Value.oneCell', setN]) ?_
  conv => whnf
  refine ldA 0 rfl rfl ?_
  conv => whnf
  refine c_Bent _ _ sz rs at' how by' 10 _ (h1.mono (hle_sub fun a ha => List.mem_cons_of_mem _ (List.mem_append_left _ ha))) s1 (by omega) ha hh hy _ fun sv2 rv2 sz2 rs2 N2 h2 s2 => ?_
  obtain ⟨c1, c2, c3, rfl⟩ := h2.s.slice
  obtain ⟨d1, d2, d3, rfl⟩ := h2.r.slice
  conv => whnf
  intro g12
  conv => whnf
  refine stC 0 rfl rfl (by first | (refine ⟨rfl, ?_⟩; repeat' (first | exact trivial | refine ⟨rfl, ?_⟩)) | simp [oneCells, Value.oneCell', setN]) ?_
  conv => whnf
  obtain ⟨K, hK⟩ : ∃ K, K = N2 ++ (N1 ++ H.L) := ⟨_, rfl⟩
  have h1K : TbAt ⟨H.M, K⟩ (.slice a1 a2 a3) (.slice b1 b2 b3) sz rs := h1.mono (hle_sub fun a ha => hK ▸ List.mem_append_right _ (List.mem_append_left _ ha))
  have h2K : TbAt ⟨H.M, K⟩ (.slice c1 c2 c3) (.slice d1 d2 d3) sz2 rs2 := h2.mono (hle_sub fun a ha => hK ▸ List.mem_append_left _ ha)
  have hq7 := tdivI hh (n := 7) (by omega) (by omega)
  refine awp_draw hT hM 10 (List.range 10) (by kernel_rfl) H.M (.cells g12 25 [.slice c1 c2 c3, .slice d1 d2 d3] :: .cells g11 25 [.slice a1 a2 a3, .slice b1 b2 b3] :: K) [] (by rw [List.append_nil, hK]; exact Weak.perm (List.Perm.cons _ List.perm_middle)) ?_
  conv => whnf
  refine ldA 1 rfl rfl ?_
  conv => whnf
  refine ldA 0 rfl rfl ?_
  conv => whnf
  refine ldA 0 rfl rfl ?_
  conv => whnf
  refine ⟨by omega, _, wi hq7, ?_⟩
  conv => whnf
  refine c_Bent _ _ sz2 rs2 by' (how.tdiv 7) at' 80 _ (h2K.mono (hle_sub fun a ha => by simp [ha])) s2 (by omega) hy hq7 ha _ fun sv3 rv3 sz3 rs3 N3 h3 s3 => ?_
  obtain ⟨e1, e2, e3, rfl⟩ := h3.s.slice
  obtain ⟨f1, f2, f3, rfl⟩ := h3.r.slice
  refine ⟨_, N3, by rw [List.append_nil]; exact Weak.perm List.perm_append_comm, fun _ _ h => h, ?_⟩
  conv => whnf
  intro q
  conv => whnf
  obtain ⟨ts, hts⟩ : ∃ ts : List TV, ts = [⟨.slice a1 a2 a3, .slice b1 b2 b3, sz, rs⟩, ⟨.slice c1 c2 c3, .slice d1 d2 d3, sz2, rs2⟩, ⟨.slice e1 e2 e3, .slice f1 f2 f3, sz3, rs3⟩, ⟨.slice none 0 0, .slice none 0 0, [], []⟩] := ⟨_, rfl⟩
  have hlt : ts.length = 4 := by rw [hts]; rfl
  obtain ⟨K4, hK4⟩ : ∃ K4, K4 = .row (.slice (some ⟨q, 0, none⟩) 4 4) 25 2 (tbs ts) :: (N3 ++ K) := ⟨_, rfl⟩
  have hin : TbsIn H.M K4 ts := by
    intro x hx
    rw [hts] at hx
    simp only [List.mem_cons, List.not_mem_nil, or_false] at hx
    rcases hx with rfl | rfl | rfl | rfl
    · exact ⟨h1K.mono (hle_sub fun a ha => hK4 ▸ List.mem_cons_of_mem _ (List.mem_append_right _ ha)), m1.ok⟩
    · exact ⟨h2K.mono (hle_sub fun a ha => hK4 ▸ List.mem_cons_of_mem _ (List.mem_append_right _ ha)), s2.ok (by omega)⟩
    · exact ⟨h3.mono (hle_sub fun a ha => hK4 ▸ List.mem_cons_of_mem _ (List.mem_append_left _ ha)), s3.ok (by omega)⟩
    · exact ⟨⟨(nilI _).reads, ⟨none, 0, 0, rfl, Nat.le_refl _, rfl, fun h => absurd h (by omega)⟩, by simp⟩, okTb_of (by simp) (by simp) (by simp) (by simp)⟩
  have h1in : TbAt ⟨H.M, K4⟩ (.slice a1 a2 a3) (.slice b1 b2 b3) sz rs := (hin ⟨_, _, _, _⟩ (by rw [hts]; exact List.mem_cons_self)).1
  have hrd : Reads ⟨H.M, K4⟩ (.slice (some ⟨q, 0, none⟩) 4 4) 2 (tbs ts) := readsRow (e := 25) (hK4 ▸ List.mem_cons_self) (rowNew (by rw [hts]; rfl) (by omega))
  obtain ⟨_, _, e, hct⟩ := tbAt hrd
  injection e with e1 e2 e3
  subst e1
  refine ⟨⟨H.M, .cells g11 25 [.slice a1 a2 a3, .slice b1 b2 b3] :: K4⟩, (weakDel 0 rfl).trans (Weak.perm (List.Perm.cons _ (by rw [hK4, hts]; exact List.perm_middle.trans (List.Perm.cons _ List.perm_append_comm)))), ?_⟩
  clear hv hK4 h2K h1K h3 h2 h1 s1 s2 s3 hK hrd
  conv => whnf
  refine awp_loopL hT 108 [4, 11, 13, 14] (fun m vs H' => ∃ (i : Nat), vs = [.int .i64 pn, ptr g11, .slice (some ⟨q, 0, none⟩) 4 4, .int .i64 i] ∧ m + i = 4 ∧
    H' = ⟨H.M, .cells g11 25 [.slice a1 a2 a3, .slice b1 b2 b3] :: K4⟩) 4 rfl rfl (Weak.refl _) ⟨0, rfl, rfl, rfl⟩ ?_
  rintro m u vs H' ⟨i, rfl, hm, rfl⟩
  conv => whnf
  refine ifC_dec (fun hi => ?_) (fun hi => ?_)
  · have hil : i < ts.length := by omega
    obtain ⟨g', o', e', hce⟩ := hct i hil
    cases e'
    obtain ⟨hx, hok⟩ := hin _ (List.getElem_mem hil)
    generalize ts[i] = x at *
    obtain ⟨xs, xr, xsz, xrs⟩ := x
    obtain ⟨x1, x2, x3, rfl⟩ := hx.s.slice
    obtain ⟨y1, y2, y3, rfl⟩ := hx.r.slice
    have hce : ∀ L, (∀ a ∈ K4, a ∈ L) → CellsAt ⟨H.M, L⟩ q (0 + i * 2) [.slice x1 x2 x3, .slice y1 y2 y3] := fun L hL => hce.mono (hle_sub hL)
    simp only at hx hok
    conv => whnf
    refine ⟨_, _, rfl, by omega, ?_⟩
    conv => whnf
    refine ⟨_, rfl, hce _ (fun a ha => List.mem_cons_of_mem _ ha), ?_⟩
    conv => whnf
    refine c_own _ _ xsz xrs _ (hx.mono (hle_sub fun a ha => List.mem_cons_of_mem _ ha)) hok _ fun ov hov => ?_
    obtain ⟨o1, o2, o3, rfl⟩ := hov.slice
    conv => whnf
    intro g15
    conv => whnf
    refine stC 0 rfl rfl (by first | (refine ⟨rfl, ?_⟩; repeat' (first | exact trivial | refine ⟨rfl, ?_⟩)) | simp [oneCells, Value.oneCell', setN]) ?_
    conv => whnf
    obtain ⟨K5, hK5⟩ : ∃ K5, K5 = .cells g15 31 [.slice x1 x2 x3, .slice o1 o2 o3] :: .row (.slice o1 o2 o3) 55 2 (rvs xrs) :: .cells g11 25 [.slice a1 a2 a3, .slice b1 b2 b3] :: K4 := ⟨_, rfl⟩
    have hsub : ∀ a ∈ K4, a ∈ K5 := fun a ha => hK5 ▸ List.mem_cons_of_mem _ (List.mem_cons_of_mem _ (List.mem_cons_of_mem _ ha))
    have hxo : TbAt ⟨H.M, K5⟩ (.slice x1 x2 x3) (.slice o1 o2 o3) xsz xrs := ⟨(hx.mono (hle_sub hsub)).s, readsRow (e := 55) (hK5 ▸ List.mem_cons_of_mem _ List.mem_cons_self) hov, (hx.mono (hle_sub hsub)).v⟩
    have hx5 : TbAt ⟨H.M, K5⟩ (.slice x1 x2 x3) (.slice y1 y2 y3) xsz xrs := hx.mono (hle_sub hsub)
    have hc5 : ∀ L, (∀ a ∈ K5, a ∈ L) → CellsAt ⟨H.M, L⟩ g15 0 [.slice x1 x2 x3, .slice o1 o2 o3] := fun L hL => (cellsOwn (e := 31) (hL _ (hK5 ▸ List.mem_cons_self)))
    refine awp_draw hT hM 19 (List.range 19) (by kernel_rfl) H.M K5 [] (by rw [List.append_nil, hK5]; exact Weak.refl _) ?_
    conv => whnf
    refine ⟨_, rfl, hc5 _ (fun a ha => ha), ?_⟩
    conv => whnf
    refine c_Valid _ _ xsz xrs _ (hxo.mono (hle_sub fun a ha => by simp [ha])) hok _ ?_
    refine ⟨_, _, Weak.refl _, fun _ _ h => h, ?_⟩
    conv => whnf
    refine ⟨_, _, rfl, by omega, ?_⟩
    conv => whnf
    refine ⟨_, rfl, hce _ (fun a ha => hsub a ha), ?_⟩
    conv => whnf
    refine c_ValidR _ _ xsz xrs _ (hx5.mono (hle_sub fun a ha => by simp [ha])) hok _ ?_
    refine ⟨_, _, Weak.refl _, fun _ _ h => h, ?_⟩
    conv => whnf
    have hpo := personsT_ok hok
    refine ifC_dec (fun c => absurd c (by simp)) (fun c => ?_)
    conv => whnf
    refine ⟨_, rfl, hc5 _ (fun a ha => ha), ?_⟩
    conv => whnf
    refine c_Persons _ _ xsz xrs _ (hxo.mono (hle_sub fun a ha => by simp [ha])) hok _ fun v4 hv4 => ?_
    refine ⟨_, [_], weakMid, fun _ _ h => h, ?_⟩
    conv => whnf
    refine ⟨_, _, rfl, by omega, ?_⟩
    conv => whnf
    refine ⟨_, rfl, hce _ (fun a ha => hsub a ha), ?_⟩
    conv => whnf
    refine c_PersonsR _ _ xsz xrs _ (hx5.mono (hle_sub fun a ha => by simp [ha])) hok _ fun v5 hv5 => ?_
    refine ⟨_, [_, _], weakMid, fun _ _ h => h, ?_⟩
    conv => whnf
    refine c_SameInts v4 v5 (personsT (tbOf xsz xrs)) (personsT (tbOf xsz xrs)) _ ⟨readsRow (e := 3) (by simp) hv4, hpo.1, by omega⟩ ⟨readsRow (e := 3) (by simp) hv5, hpo.1, by omega⟩ _ ?_
    rw [decide_eq_true rfl]
    refine ⟨_, _, Weak.refl _, fun _ _ h => h, ?_⟩
    conv => whnf
    refine ⟨⟨H.M, K5⟩, (Weak.perm List.perm_append_comm).trans (weakK 2 rfl), ?_⟩
    conv => whnf
    have hb42 := around_bd pn 42 (by omega)
    refine c_Around pn 42 hpn (by omega) _ _ ?_
    generalize around pn 42 = pa at *
    conv => whnf
    intro q2
    conv => whnf
    obtain ⟨K6, hK6⟩ : ∃ K6, K6 = .row (.slice (some ⟨q2, 0, none⟩) 2 2) 3 1 (ints [pn, pa]) :: K5 := ⟨_, rfl⟩
    have hsub6 : ∀ a ∈ K4, a ∈ K6 := fun a ha => hK6 ▸ List.mem_cons_of_mem _ (hsub a ha)
    have hsub56 : ∀ a ∈ K5, a ∈ K6 := fun a ha => hK6 ▸ List.mem_cons_of_mem _ ha
    have hps : IntsAt ⟨H.M, K6⟩ (.slice (some ⟨q2, 0, none⟩) 2 2) [pn, pa] := intsRow (i := 0) (by rw [hK6]; rfl) (rowNew rfl (by omega)) (by simp; omega) (by simp)
    obtain ⟨_, _, e, hcp⟩ := intsAt hps.reads
    cases e
    refine awp_loopL hT 108 [4, 11, 13, 14, 15, 16, 17] (fun m vs H' => ∃ (j : Nat), vs = [.int .i64 pn, ptr g11, .slice (some ⟨q, 0, none⟩) 4 4, .int .i64 i, ptr g15, .slice (some ⟨q2, 0, none⟩) 2 2, .int .i64 j] ∧ m + j = 2 ∧
      H' = ⟨H.M, K6⟩) 2 rfl rfl (by rw [hK6]; exact Weak.refl _) ⟨0, rfl, rfl, rfl⟩ ?_
    rintro m2 u2 vs H' ⟨j, rfl, hm2, rfl⟩
    conv => whnf
    refine ifC_dec (fun hj => ?_) (fun hj => ?_)
    · conv => whnf
      refine awp_draw hT hM 28 (List.range 28) (by kernel_rfl) H.M K6 [] (by rw [List.append_nil]; exact Weak.refl _) ?_
      obtain ⟨_, _, e', hcpj⟩ := hcp j (by omega) (by simp; omega)
      cases e'
      generalize geti [pn, pa] j = p at *
      conv => whnf
      refine ⟨_, rfl, hc5 _ hsub56, ?_⟩
      conv => whnf
      refine ⟨_, _, rfl, by omega, ?_⟩
      conv => whnf
      refine ⟨_, hcpj, ?_⟩
      conv => whnf
      refine c_Without _ _ xsz xrs p _ (hxo.mono (hle_sub fun a ha => by simp [hsub56 a ha])) hok _ fun v7 hv7 => ?_
      obtain ⟨w1, w2, w3, rfl⟩ := hv7.slice
      refine ⟨_, [_], weakMid, fun _ _ h => h, ?_⟩
      conv => whnf
      have hokw : okTb (tbOf xsz (xrs.filter (keepP p))) := okTb_of hok.sl hok.si (by have := hok.rl; rw [tbOf_rows] at this; have := List.length_filter_le (keepP p) xrs; omega) fun x hx => hok.row (List.mem_filter.1 hx).1
      have hw : ∀ L, (∀ a ∈ K6, a ∈ L) → Atom.row (.slice w1 w2 w3) 55 2 (rvs (xrs.filter (keepP p))) ∈ L → TbAt ⟨H.M, L⟩ (.slice x1 x2 x3) (.slice w1 w2 w3) xsz (xrs.filter (keepP p)) := fun L h1 h2 =>
        ⟨hxo.s.mono (hle_sub fun a ha => h1 _ (hsub56 a ha)), readsRow (e := 55) h2 hv7, fun x hx => (hxo.v x (List.mem_filter.1 hx).1).mono (hle_sub fun a ha => h1 _ (hsub56 a ha))⟩
      refine c_plain _ _ xsz _ _ (hw _ (fun a ha => by simp [ha]) (by simp)) hokw _ fun v8 hv8 => ?_
      obtain ⟨z1, z2, z3, rfl⟩ := hv8.slice
      refine ⟨_, [_, _], weakMid, fun _ _ h => h, ?_⟩
      conv => whnf
      refine ⟨_, _, rfl, by omega, ?_⟩
      conv => whnf
      refine ⟨_, rfl, hce _ hsub6, ?_⟩
      conv => whnf
      refine ⟨_, _, rfl, by omega, ?_⟩
      conv => whnf
      refine ⟨_, hcpj, ?_⟩
      conv => whnf
      refine c_WithoutR _ _ xsz xrs p _ (hx5.mono (hle_sub fun a ha => by simp [hsub56 a ha])) hok _ fun v9 hv9 => ?_
      obtain ⟨r1, r2, r3, rfl⟩ := hv9.slice
      refine ⟨_, [_, _, _], weakMid, fun _ _ h => h, ?_⟩
      conv => whnf
      have hwz : ∀ L, (∀ a ∈ K6, a ∈ L) → Atom.row (.slice z1 z2 z3) 60 2 (rvs (xrs.filter (keepP p))) ∈ L → TbAt ⟨H.M, L⟩ (.slice x1 x2 x3) (.slice z1 z2 z3) xsz (xrs.filter (keepP p)) := fun L h1 h2 =>
        ⟨hxo.s.mono (hle_sub fun a ha => h1 _ (hsub56 a ha)), readsRow (e := 60) h2 hv8, fun x hx => (hxo.v x (List.mem_filter.1 hx).1).mono (hle_sub fun a ha => h1 _ (hsub56 a ha))⟩
      have hwr : ∀ L, (∀ a ∈ K6, a ∈ L) → Atom.row (.slice r1 r2 r3) 60 2 (rvs (xrs.filter (keepP p))) ∈ L → TbAt ⟨H.M, L⟩ (.slice x1 x2 x3) (.slice r1 r2 r3) xsz (xrs.filter (keepP p)) := fun L h1 h2 =>
        ⟨hxo.s.mono (hle_sub fun a ha => h1 _ (hsub56 a ha)), readsRow (e := 60) h2 hv9, fun x hx => (hxo.v x (List.mem_filter.1 hx).1).mono (hle_sub fun a ha => h1 _ (hsub56 a ha))⟩
      refine c_same _ _ _ _ xsz _ _ _ (hwz _ (fun a ha => by simp [ha]) (by simp)) (hwr _ (fun a ha => by simp [ha]) (by simp)) hokw rfl _ ?_
      refine ⟨_, _, Weak.refl _, fun _ _ h => h, ?_⟩
      conv => whnf
      refine ⟨_, rfl, hc5 _ hsub56, ?_⟩
      conv => whnf
      refine c_plain _ _ xsz xrs _ (hxo.mono (hle_sub fun a ha => by simp [hsub56 a ha])) hok _ fun v10 hv10 => ?_
      obtain ⟨t1, t2, t3, rfl⟩ := hv10.slice
      refine ⟨_, [_, _, _, _], weakMid, fun _ _ h => h, ?_⟩
      conv => whnf
      refine ⟨_, _, rfl, by omega, ?_⟩
      conv => whnf
      refine ⟨_, rfl, hce _ hsub6, ?_⟩
      conv => whnf
      have hwt : ∀ L, (∀ a ∈ K6, a ∈ L) → Atom.row (.slice t1 t2 t3) 60 2 (rvs xrs) ∈ L → TbAt ⟨H.M, L⟩ (.slice x1 x2 x3) (.slice t1 t2 t3) xsz xrs := fun L h1 h2 =>
        ⟨hxo.s.mono (hle_sub fun a ha => h1 _ (hsub56 a ha)), readsRow (e := 60) h2 hv10, fun x hx => (hxo.v x hx).mono (hle_sub fun a ha => h1 _ (hsub56 a ha))⟩
      refine c_same _ _ _ _ xsz _ _ _ (hwt _ (fun a ha => by simp [ha]) (by simp)) (hx5.mono (hle_sub fun a ha => by simp [hsub56 a ha])) hok rfl _ ?_
      refine ⟨_, _, Weak.refl _, fun _ _ h => h, ?_⟩
      conv => whnf
      refine ⟨⟨H.M, K6⟩, (Weak.perm List.perm_append_comm).trans (weakK 4 rfl), ?_⟩
      conv => whnf
      repeat (refine ⟨_, wi (by omega), ?_⟩; conv => whnf)
      exact ⟨rfl, rfl, m2 - 1, _, by omega, Weak.refl _, j + 1, rfl, by omega, rfl⟩
    · conv => whnf
      repeat (refine ⟨_, wi (by omega), ?_⟩; conv => whnf)
      exact ⟨rfl, rfl, m - 1, ⟨H.M, .cells g11 25 [.slice a1 a2 a3, .slice b1 b2 b3] :: K4⟩, by omega, by rw [hK6, hK5]; exact weakK 3 rfl, i + 1, rfl, by omega, rfl⟩
  · conv => whnf
    refine ldA 0 rfl rfl ?_
    conv => whnf
    refine c_own _ _ sz rs _ (h1in.mono (hle_sub fun a ha => List.mem_cons_of_mem _ ha)) m1.ok _ fun ov hov => ?_
    obtain ⟨o1, o2, o3, rfl⟩ := hov.slice
    conv => whnf
    refine c_Valid _ _ sz rs _ ⟨(h1in.mono (hle_sub fun a ha => by simp [ha])).s, readsRow (e := 55) List.mem_cons_self hov, (h1in.mono (hle_sub fun a ha => by simp [ha])).v⟩ m1.ok _ ?_
    rw [m1.v]
    conv => whnf
    refine c_lives25 _ _ fun N => ?_
    conv => whnf
    refine ⟨rfl, ?_⟩
    conv => whnf
    exact fin (Weak.refl _) (hR _)
end Go.Proofs.Ytohdcmkooedkcaa.A
