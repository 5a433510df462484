/- BudgetRefused. -/
import Derived.Test.YtpblnfldhicfgaaC8
namespace Go.Proofs.Ytpblnfldhicfgaa.A
open Go Go.RowKit
set_option linter.unusedVariables false
set_option linter.unusedSimpArgs false
set_option maxRecDepth 20000

theorem c_equalS (g : Nat) (a b c d : Value) (g' : Nat) (a' b' c' d' : Value) (B : Bk) (H : Hp) (hB : okB B) (hb : BkAt H g a b c d B) (hb' : BkAt H g' a' b' c' d' B) (n m : Int) (hn : n = B.lim.length) (hm : m = B.most.length)
    (R : Ending → Hp → Prop) (hR : R (.returned (.bool true)) H) : ACalls Try.prog 27 [ptr g, ptr g', .int .i64 n, .int .i64 m] H R := by
  subst hn hm
  exact c_equal g a b c d g' a' b' c' d' B B H hB hB hb hb' rfl rfl (fun _ _ => cmpF_self _) (fun _ _ => cmpF_self _) R hR
theorem act_no {B : Bk} {x : Ac} (hB : okB B) (h : (actB B x).2 ≠ 0) : (actB B x).1 = B := by
  unfold actB at *
  split
  · rename_i h1
    rw [if_pos h1] at h
    unfold remB at *
    split
    · rfl
    · rename_i h2
      rw [if_neg h2] at h
      split
      · rfl
      · rename_i h3
        rw [if_neg h3] at h
        exact absurd rfl h
  · rename_i h1
    rw [if_neg h1] at h
    exact (ask_no hB (fun h' => h ((ask_iff hB).2 h'))).1
theorem okC_zero : okC ⟨0, 0⟩ := ⟨.inl ⟨rfl, rfl⟩, Int.le_refl _⟩
/-- Asking one person at no cost. -/
theorem ask_one {B : Bk} {p : Int} {N : Int} (hB : okB B) (hK : Kept B) (hG : GridB N B) (hN : N ≤ 1000000) (h0 : 0 ≤ p) (h1 : p < B.lim.length) : (askB B [p] ⟨0, 0⟩).2 = if getb B.rem p = true then 24 else 0 := by
  have hkn : knE B [] [p] = if getb B.rem p = true then 24 else 0 := by
    rw [knE_cons, if_neg (by omega), if_neg (by simp), knE_nil]
  by_cases h : getb B.rem p = true
  · rw [if_pos h] at *
    unfold askB
    rw [if_neg (fun h' => h'.elim (by simp) fun h' => h' okC_zero), if_pos (by rw [hkn]; omega)]
    exact hkn
  · rw [if_neg h] at *
    rw [askQ (M := 0) hB hG (Cost12.zero (by omega)) (by simp) (by omega) (by omega)]
    refine ⟨by simp, hkn, fun q hq => ?_, fun o ho _ => ?_⟩
    · rw [List.mem_singleton.1 hq, q_zero, Rat.add_zero]; exact hK.sp p h0 h1
    · rw [q_zero, Rat.zero_mul, Rat.add_zero]; exact hK.owed o ho
theorem getb_set {l : List Bool} {p : Int} (h0 : 0 ≤ p) (h1 : p < l.length) : getb (l.set p.toNat true) p = true := by
  simp only [getb, List.getD_eq_getElem?_getD]
  rw [List.getElem?_set_self (by omega)]; rfl

theorem permMid3 {A C R X : List Atom} : (A ++ (C ++ (R ++ X))).Perm ((R ++ X) ++ (A ++ C)) := by
  rw [← List.append_assoc]; exact List.perm_append_comm
theorem permMid4 {A C S : List Atom} : (S ++ (A ++ C)).Perm (C ++ (A ++ S)) :=
  (List.perm_append_comm (l₁ := S)).trans (by rw [List.append_assoc]; exact (List.perm_append_comm_assoc A C S))
theorem weakAC' {M : Nat → Option Obj} {A C S : List Atom} : Weak ⟨M, A ++ (C ++ S)⟩ ⟨M, A ++ S⟩ :=
  (Weak.perm (List.perm_append_comm_assoc A C S)).trans (Weak.dropAll M C (A ++ S))
theorem weakMid5 {M : Nat → Option Obj} {x r : Atom} {A C Y : List Atom} : Weak ⟨M, x :: (A ++ (r :: (C ++ Y)))⟩ ⟨M, C ++ (x :: Y)⟩ :=
  (Weak.perm (List.perm_middle (l₁ := A)).symm).trans ((Weak.dropAll M A _).trans ((weakDel 1 rfl).trans (Weak.perm (List.perm_middle (l₁ := C)).symm)))
theorem weakAC {M : Nat → Option Obj} {A C S : List Atom} : Weak ⟨M, (A ++ C) ++ S⟩ ⟨M, A ++ S⟩ := by
  rw [List.append_assoc]; exact weakAC'
set_option maxHeartbeats 4000000 in
theorem c_BudgetRefused (v vs' vm : Value) (l s m : List Int) (person : Int) (H : Hp) (hv : IntsAt H v l) (hs : IntsAt H vs' s) (hp : I64 person) (R : Ending → Hp → Prop) (hR : ∀ H', R (.returned (.bool true)) H') :
    ACalls Try.prog 8 [v, vs', vm, .int .i64 person] H R := by
  refine acalls_code hT Try.func8 rfl rfl ?_
  conv => whnf
  refine c_begun v l _ hv _ ?_
  intro g a b c d g' a' b' c' d' e' f' hV hV'
  have hB0 := begB_ok l
  have hn := begB_n l
  have hm := begB_m l
  have bn := bgN_bd l
  have bm := bgM_bd l
  have hK := beg_kept l
  have hG := beg_grid l
  generalize begB l = B0 at *
  have l1 := hB0.l1; have l4 := hB0.l4
  conv => whnf
  have hle1 : HLe H ⟨H.M, bkA g a b c d B0 ++ (rbA g' a' b' c' d' e' f' B0 ++ H.L)⟩ := (hle_pre (rbA g' a' b' c' d' e' f' B0) _).trans (hle_pre (bkA g a b c d B0) _)
  have hr0 : RbAt ⟨H.M, rbA g' a' b' c' d' e' f' B0⟩ g' a' b' c' d' e' f' B0 := rbIn hV' fun a ha => ha
  obtain ⟨pb, cb, rfl, _⟩ := frsAt hr0.b
  obtain ⟨pf, cf, rfl, _⟩ := frsAt hr0.f
  have hr := fun (L : List Atom) h => hr0.mono (hle_sub (L' := L) h)
  refine ⟨_, (hr _ (fun a ha => by simp [ha])).h 1 _ rfl, ?_⟩
  conv => whnf
  refine c_Script vs' s B0.sp.length _ (hs.mono hle1) (by omega) _ ?_
  intro v' cs hcs hrow hv'
  have hlen : cs.length ≤ 20 := by
    have := congrArg List.length hcs
    rw [List.length_map] at this
    rw [this]; exact script_length _ _
  have hS : Scr cs := ⟨hrow, map_ok hcs (script_ok (by omega)), by omega⟩
  have hScr : ∀ c ∈ cs, acScr c.2 := fun c hc => script_scr _ (hcs ▸ List.mem_map.2 ⟨c, hc, rfl⟩)
  obtain ⟨v4, v5, rfl, _⟩ := acsAt (H := ⟨H.M, [.row v' 50 4 (acs cs)]⟩) (readsRow List.mem_cons_self hv')
  conv => whnf
  refine awp_loopL hT 171 [3, 9, 10, 11, 12] (fun n vs Hx => ∃ (k : Nat) (a b c d : Value) (B : Bk), vs = [.int .i64 person, ptr g, ptr g', .slice v4 cs.length v5, .int .i64 k] ∧ n + k = cs.length ∧ okB B ∧ BkV a b c d B ∧ Kept B ∧ GridB (432 * k) B ∧ B.lim = B0.lim ∧ B.most = B0.most ∧
    Hx = ⟨H.M, bkA g a b c d B ++ (rbA g' a' (.slice pb B0.sp.length cb) c' d' e' (.slice pf B0.owed.length cf) B0 ++ (scA (.slice v4 cs.length v5) cs ++ H.L))⟩) cs.length rfl rfl
    (Weak.perm (permBegin (X := scA _ cs))) ⟨0, a, b, c, d, B0, rfl, rfl, hB0, hV, hK, hG.mono (by omega), rfl, rfl, rfl⟩ ?_
  clear hV hV' hB0 hK hG hv hs
  rintro n u vs Hx ⟨k, a, b, c, d, B, rfl, hk, hB, hV, hK, hG, hlim, hmost, rfl⟩
  have hl2 : B.lim.length = B0.lim.length := by rw [hlim]
  have hm2 : B.most.length = B0.most.length := by rw [hmost]
  conv => whnf
  refine ifC_dec (fun h1 => ?_) (fun h1 => ?_)
  · have hkd : k < cs.length := by omega
    conv => whnf
    refine c_Copy g a b c d B _ hB (bkIn hV fun a ha => by simp [ha]) _ ?_
    intro gc a1 b1 c1 d1 hV1
    conv => whnf
    refine awp_drawQ hT hM 18 (by kernel_rfl) ?_
    conv => whnf
    refine ⟨_, (hr _ (fun a ha => by simp [ha])).h 1 _ rfl, ?_⟩
    conv => whnf
    refine ⟨_, (hr _ (fun a ha => by simp [ha])).h 5 _ rfl, ?_⟩
    conv => whnf
    refine c_equalS gc a1 b1 c1 d1 g a b c d B _ hB (bkIn hV1 fun a ha => by simp [ha]) (bkIn hV fun a ha => by simp [ha]) _ _ (by omega) (by omega) _ ⟨Weak.refl _, ?_⟩
    conv => whnf
    have hread : ∀ L, (∀ a ∈ scA (.slice v4 cs.length v5) cs, a ∈ L) → Reads ⟨H.M, L⟩ (.slice v4 cs.length v5) 4 (acs cs) := fun L h => readsRow (e := 50) (h _ (by simp [scA])) hv'
    obtain ⟨q1, q2, eq, hcell⟩ := acsAt (hread (scA (.slice v4 cs.length v5) cs) (fun a ha => ha))
    obtain ⟨gq, oq, e3, hcel⟩ := hcell k hkd
    cases eq
    subst e3
    clear hcell hread
    have hcel := fun (L : List Atom) h => hcel.mono (hle_sub (L' := L) h)
    refine ⟨gq, oq, rfl, by omega, ?_⟩
    conv => whnf
    refine ⟨_, rfl, hcel _ (fun a ha => by simp [ha]), ?_⟩
    conv => whnf
    have hokx := hS.ok _ (List.getElem_mem hkd)
    have hsx := hScr _ (List.getElem_mem hkd)
    have hnx := hokx.n
    refine ACalls.weak (Weak.perm (List.perm_append_comm_assoc _ _ _)) (c_act g a b c d B cs[k].1 cs[k].2 H.M _ hB hV (hS.ints hkd (fun a ha => by simp [scA, ha])) (by omega) hokx.I _ fun a2 b2 c2 d2 hV2 => ?_)
    have hkp := act_kept (x := cs[k].2) hB
    have hB' := hB.act cs[k].2
    have hK' := hkp.1 hK
    have hG' := act_grid hB hG hsx (by omega)
    have hlim' := hkp.2.lim.trans hlim
    have hmost' := hkp.2.most.trans hmost
    have hno := act_no (x := cs[k].2) hB
    obtain ⟨⟨B', e⟩, hBe⟩ : ∃ p, actB B cs[k].2 = p := ⟨_, rfl⟩
    rw [hBe] at hV2 hB' hK' hG' hlim' hmost' hno
    rw [hBe]
    simp only at hV2 hB' hK' hG' hlim' hmost' hno
    have hl3 : B'.lim.length = B0.lim.length := by rw [hlim']
    have hm3 : B'.most.length = B0.most.length := by rw [hmost']
    conv => whnf
    refine awp_drawQ hT hM 18 (by kernel_rfl) ?_
    conv => whnf
    refine ifC_dec (fun h2 => ?_) (fun h2 => ?_)
    · have hBB : B' = B := hno h2
      subst hBB
      conv => whnf
      refine ⟨_, (hr _ (fun a ha => by simp [ha])).h 1 _ rfl, ?_⟩
      conv => whnf
      refine ⟨_, (hr _ (fun a ha => by simp [ha])).h 5 _ rfl, ?_⟩
      conv => whnf
      refine c_equalS gc a1 b1 c1 d1 g a2 b2 c2 d2 B' _ hB (bkIn hV1 fun a ha => by simp [ha]) (bkIn hV2 fun a ha => by simp [ha]) _ _ (by omega) (by omega) _ ⟨Weak.refl _, ?_⟩
      conv => whnf
      refine awp_drawQ hT hM 27 (by kernel_rfl) ?_
      conv => whnf
      refine ifC_neg (h2) ?_
      conv => whnf
      refine ⟨_, (hr _ (fun a ha => by simp [ha])).h 1 _ rfl, ?_⟩
      conv => whnf
      refine ⟨_, (hr _ (fun a ha => by simp [ha])).h 5 _ rfl, ?_⟩
      conv => whnf
      refine c_equalS gc a1 b1 c1 d1 g a2 b2 c2 d2 B' _ hB (bkIn hV1 fun a ha => by simp [ha]) (bkIn hV2 fun a ha => by simp [ha]) _ _ (by omega) (by omega) _ ⟨Weak.refl _, ?_⟩
      conv => whnf
      repeat (refine ⟨_, wi (by omega), ?_⟩; conv => whnf)
      refine ⟨rfl, rfl, n - 1, _, by omega, ?_, k + 1, a2, b2, c2, d2, B', rfl, by omega, hB, hV2, hK', hG'.mono (by omega), hlim', hmost', rfl⟩
      exact weakAC'
    · have he : e = 0 := Classical.not_not.1 h2
      subst he
      conv => whnf
      refine awp_draw hT hM 27 (List.range 27) (by kernel_rfl) H.M (rbA g' a' (.slice pb B0.sp.length cb) c' d' e' (.slice pf B0.owed.length cf) B0 ++ (scA (.slice (some ⟨gq, oq, none⟩) cs.length v5) cs ++ H.L)) (bkA g a2 b2 c2 d2 B' ++ bkA gc a1 b1 c1 d1 B) (Weak.perm permMid3) ?_
      conv => whnf
      refine ⟨gq, oq, rfl, by omega, ?_⟩
      conv => whnf
      refine ⟨_, rfl, hcel _ (fun a ha => by simp [ha]), ?_⟩
      conv => whnf
      refine ACalls.weak (Weak.perm permMid4) (c_act gc a1 b1 c1 d1 B cs[k].1 cs[k].2 H.M _ hB hV1 (hS.ints hkd (fun a ha => by simp [scA, ha])) (by omega) hokx.I _ fun a3 b3 c3 d3 hV3 => ?_)
      rw [hBe] at hV3
      rw [hBe]
      refine ⟨_, bkA g a2 b2 c2 d2 B' ++ bkA gc a3 b3 c3 d3 B', Weak.perm permMid4.symm, fun _ _ h => h, ?_⟩
      conv => whnf
      refine ⟨_, (hr _ (fun a ha => by simp [ha])).h 1 _ rfl, ?_⟩
      conv => whnf
      refine ⟨_, (hr _ (fun a ha => by simp [ha])).h 5 _ rfl, ?_⟩
      conv => whnf
      refine c_equalS gc a3 b3 c3 d3 g a2 b2 c2 d2 B' _ hB' (bkIn hV3 fun a ha => by simp [ha]) (bkIn hV2 fun a ha => by simp [ha]) _ _ (by omega) (by omega) _ ?_
      refine ⟨_, _, Weak.refl _, fun _ _ h => h, ?_⟩
      conv => whnf
      refine ⟨_, Weak.perm List.perm_append_comm, ?_⟩
      conv => whnf
      repeat (refine ⟨_, wi (by omega), ?_⟩; conv => whnf)
      exact ⟨rfl, rfl, n - 1, _, by omega, weakAC, k + 1, a2, b2, c2, d2, B', rfl, by omega, hB', hV2, hK', hG'.mono (by omega), hlim', hmost', rfl⟩
  · have hke : k = cs.length := by omega
    conv => whnf
    refine ⟨_, (hr _ (fun a ha => by simp [ha])).h 1 _ rfl, ?_⟩
    conv => whnf
    refine c_Around _ _ hp (by omega) _ _ ?_
    have hpb := around_bd person B0.sp.length (by omega)
    generalize around person B0.sp.length = p at *
    conv => whnf
    refine c_Copy g a b c d B _ hB (bkIn hV fun a ha => by simp [ha]) _ ?_
    intro gc a1 b1 c1 d1 hV1
    conv => whnf
    refine ACalls.weak (Weak.perm (List.perm_append_comm_assoc _ _ _)) (c_Remove g a b c d B p H.M _ hB hV _ fun hV2 => ?_)
    have hB2 := hB.rm p
    have hl3 := hB.l3
    have e7 : (remB B p).2 = if getb B.rem p = true then 7 else 0 := by
      unfold remB
      rw [if_neg (by omega)]
      split <;> rfl
    have hrem : getb (remB B p).1.rem p = true := by
      unfold remB
      rw [if_neg (by omega)]
      split
      · assumption
      · exact getb_set hpb.1 (by omega)
    have hl4 : (remB B p).1.lim.length = B.lim.length := by rw [(rem_kept p).2.lim]
    have hask := ask_one hB hK hG (by omega) hpb.1 (by omega)
    rw [e7]
    generalize (remB B p).1 = B1 at *
    conv => whnf
    intro gs
    conv => whnf
    have hkn : knE B1 [] [p] = 24 := by rw [knE_cons, if_neg (by omega), if_neg (by simp), if_pos hrem]
    have hask1 : askB B1 [p] ⟨0, 0⟩ = (B1, 24) := by
      unfold askB
      rw [if_neg (fun h' => h'.elim (by simp) fun h' => h' okC_zero), if_pos (by rw [hkn]; omega), hkn]
    refine ACalls.weak (Weak.perm (List.perm_middle (l₁ := bkA g a b c d B1)).symm) (c_Ask g a b c d B1 _ [p] ⟨0, 0⟩ H.M _ hB2 hV2 (intsRow 5 rfl (rowNew rfl (by omega)) (by intro x hx; simp at hx; omega) (by simp)) (by simp) (okF.I (.inl ⟨rfl, rfl⟩)) _ fun a3 b3 c3 d3 hV3 => ?_)
    rw [hask1] at hV3
    rw [hask1]
    conv => whnf
    have hrem2 : remB B1 p = (B1, 7) := by
      unfold remB
      rw [if_neg (by omega), if_pos hrem]
    refine c_Remove g a3 b3 c3 d3 B1 p H.M _ hB2 hV3 _ fun hV4 => ?_
    rw [hrem2]
    by_cases hq : getb B.rem p = true
    · rw [if_pos hq] at hask
      rw [if_pos hq]
      conv => whnf
      intro gs2
      conv => whnf
      refine ACalls.weak weakMid5 (c_Ask gc a1 b1 c1 d1 B _ [p] ⟨0, 0⟩ H.M _ hB hV1 (intsRow 5 rfl (rowNew rfl (by omega)) (by intro x hx; simp at hx; omega) (by simp)) (by simp) (okF.I (.inl ⟨rfl, rfl⟩)) _ fun a5 b5 c5 d5 hV5 => ?_)
      rw [hask]
      conv => whnf
      refine c_lives _ _ ?_
      conv => whnf
      refine ⟨rfl, ?_⟩
      conv => whnf
      exact fin (Weak.refl _) (hR _)
    · rw [if_neg hq] at hask
      rw [if_neg hq]
      conv => whnf
      intro gs2
      conv => whnf
      refine ACalls.weak weakMid5 (c_Ask gc a1 b1 c1 d1 B _ [p] ⟨0, 0⟩ H.M _ hB hV1 (intsRow 5 rfl (rowNew rfl (by omega)) (by intro x hx; simp at hx; omega) (by simp)) (by simp) (okF.I (.inl ⟨rfl, rfl⟩)) _ fun a5 b5 c5 d5 hV5 => ?_)
      rw [hask]
      conv => whnf
      refine c_lives _ _ ?_
      conv => whnf
      refine ⟨rfl, ?_⟩
      conv => whnf
      exact fin (Weak.refl _) (hR _)
end Go.Proofs.Ytpblnfldhicfgaa.A
