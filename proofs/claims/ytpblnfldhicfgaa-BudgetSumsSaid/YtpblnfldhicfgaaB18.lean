/- budget: Ask. -/
import Derived.Test.YtpblnfldhicfgaaB17
namespace Go.Proofs.Ytpblnfldhicfgaa.A
open Go Go.RowKit
set_option linter.unusedVariables false
set_option linter.unusedSimpArgs false
set_option maxRecDepth 20000

/-- m pieces behind the first n are given up. -/
theorem weakSkip {M : Nat → Option Obj} {L L' : List Atom} (n m : Nat) (h : L.take n ++ L.drop (n + m) = L') : Weak ⟨M, L⟩ ⟨M, L'⟩ := by
  subst h
  have e : L = L.take n ++ ((L.drop n).take m ++ (L.drop n).drop m) := by rw [List.take_append_drop, List.take_append_drop]
  have h2 : Weak ⟨M, L⟩ ⟨M, (L.drop n).take m ++ (L.take n ++ (L.drop n).drop m)⟩ := Weak.perm (by
    conv => lhs; rw [e]
    rw [← List.append_assoc, ← List.append_assoc]
    exact List.Perm.append_right _ List.perm_append_comm)
  have h3 := h2.trans (Weak.dropAll M _ _)
  rwa [List.drop_drop] at h3
theorem ints_set (l : List Int) (k : Nat) (x : Int) : setN (ints l) k [.int .i64 x] = ints (l.set k x) := by simp [setN, ints]
theorem hle_pre (S L : List Atom) {M : Nat → Option Obj} : HLe ⟨M, L⟩ ⟨M, S ++ L⟩ := fun g i v h => by
  rcases h with h | ⟨b, hb, h⟩
  · exact .inl h
  · exact .inr ⟨b, List.mem_append_right _ hb, h⟩
def cnts (B : Bk) (l : List Int) : List Int := (List.range B.most.length).map fun o : Nat => (cnt B.own l o : Int)
theorem cnts_nil (B : Bk) : cnts B [] = List.replicate B.most.length 0 := by
  apply List.ext_getElem?
  intro i
  simp only [cnts, cnt, List.filter_nil, List.length_nil, List.getElem?_map, List.getElem?_range', List.getElem?_replicate]
  by_cases h : i < B.most.length <;> simp [h]
theorem cnts_length (B : Bk) (l : List Int) : (cnts B l).length = B.most.length := by simp [cnts]
theorem cnts_get (B : Bk) (l : List Int) {o : Int} (h0 : 0 ≤ o) (h1 : o < B.most.length) : geti (cnts B l) o = cnt B.own l o := by
  obtain ⟨k, rfl⟩ : ∃ k : Nat, o = k := ⟨o.toNat, by omega⟩
  have : k < B.most.length := by omega
  simp [geti, cnts, List.getD_eq_getElem?_getD, this]
theorem cnts_step (B : Bk) (l : List Int) (x : Int) (h0 : 0 ≤ geti B.own x) (h1 : geti B.own x < B.most.length) : (cnts B l).set (geti B.own x).toNat (cnt B.own l (geti B.own x) + 1) = cnts B (l ++ [x]) := by
  apply List.ext_getElem?
  intro i
  rw [List.getElem?_set]
  have hlt : (geti B.own x).toNat < B.most.length := by omega
  by_cases hi : i < B.most.length
  · by_cases h : (geti B.own x).toNat = i
    · subst h
      have e : ((geti B.own x).toNat : Int) = geti B.own x := by omega
      simp [cnts, hlt, cnt_snoc, e]
    · rw [if_neg h]
      have : geti B.own x ≠ i := fun e => h (by omega)
      simp [cnts, hi, cnt_snoc, this]
  · rw [if_neg (by omega)]
    simp [cnts, List.getElem?_eq_none, hi, Nat.not_lt.1 hi]
theorem mkF_part {k n : Nat} (hk : 0 < k) (hkn : k ≤ n) (hn : n ≤ 1000) : (mkF k n).2 = 0 := by
  unfold mkF
  have h1 := div_le_self' (k : Int).natAbs (Nat.gcd (k : Int).natAbs (n : Int).natAbs)
  have h2 := div_le_self' (n : Int).natAbs (Nat.gcd (k : Int).natAbs (n : Int).natAbs)
  rw [if_neg (by omega), if_neg]
  simp only [Int.natAbs_natCast] at *
  omega

set_option maxHeartbeats 4000000 in
theorem c_Ask (g : Nat) (a b c d : Value) (B : Bk) (v : Value) (l : List Int) (cost : Fr) (M : Nat → Option Obj) (L : List Atom) (hB : okB B) (hV : BkV a b c d B)
    (hv : IntsAt ⟨M, bkA g a b c d B ++ L⟩ v l) (hl : l.length ≤ 1000) (hcost : cost.I) (R : Ending → Hp → Prop)
    (hR : ∀ a' b' c' d', BkV a' b' c' d' (askB B l cost).1 → R (.returned (.int .i64 (askB B l cost).2)) ⟨M, bkA g a' b' c' d' (askB B l cost).1 ++ L⟩) :
    ACalls Try.prog 26 [ptr g, v, cost.v] ⟨M, bkA g a b c d B ++ L⟩ R := by
  obtain ⟨p, cp, rfl, hlc, hc⟩ := hv.open
  have back : ∀ k, askB B l cost = (B, k) → R (.returned (.int .i64 k)) ⟨M, bkA g a b c d B ++ L⟩ := fun k h => by
    have := hR a b c d
    rw [h] at this
    exact this hV
  obtain ⟨pb, cb, rfl, _⟩ := accsAt hB.l4 (bkAt (M := M) (L := L) (g := g) hV).b
  have l1 := hB.l1; have l2 := hB.l2; have l3 := hB.l3; have n1 := hB.n1; have l4 := hB.l4; have n2 := hB.n2
  refine acalls_caught Try.func26 rfl rfl ?_
  conv => whnf
  intro gc
  conv => whnf
  intro ge
  conv => whnf
  refine ifC_dec (fun c1 => ?_) (fun c1 => ?_)
  · conv => whnf
    refine stC 0 rfl rfl (by first | (refine ⟨rfl, ?_⟩; repeat' (first | exact trivial | refine ⟨rfl, ?_⟩)) | simp [oneCells, Value.oneCell', setN]) ?_
    conv => whnf
    refine ⟨.inl rfl, ?_⟩
    conv => whnf
    refine ldS 0 rfl rfl ?_
    conv => whnf
    exact fin (weakK 2 rfl) (back 1 (if_pos (by simp_all)))
  · have hl0 : l.length ≠ 0 := by omega
    conv => whnf
    refine ldA 1 rfl rfl ?_
    conv => whnf
    refine c_isCost cost hcost _ _ ?_
    conv => whnf
    refine ifC_cases (fun c2 => ?_) (fun c2 => ?_)
    · simp at c2
      conv => whnf
      refine stC 0 rfl rfl (by first | (refine ⟨rfl, ?_⟩; repeat' (first | exact trivial | refine ⟨rfl, ?_⟩)) | simp [oneCells, Value.oneCell', setN]) ?_
      conv => whnf
      refine ⟨.inl rfl, ?_⟩
      conv => whnf
      refine ldS 0 rfl rfl ?_
      conv => whnf
      exact fin (weakK 2 rfl) (back 1 (if_pos (by simp_all)))
    · simp at c2
      have c2 : okC cost := c2
      unfold askB at back hR
      rw [if_neg (by simp [hl0, c2])] at back hR
      have hle0 : HLe ⟨M, bkA g a (.slice pb B.most.length cb) c d B ++ L⟩ ⟨M, .cells ge 33 [.int .i64 0] :: frA gc cost :: (bkA g a (.slice pb B.most.length cb) c d B ++ L)⟩ := (HLe.cons _ _).trans (HLe.cons _ _)
      have hb0 := (bkAt (M := M) (L := L) (g := g) hV).mono hle0
      have hv0 := hv.mono hle0
      conv => whnf
      refine awp_loopD hT [caughtD ge] 118 [0, 1, 5, 6, 30, 31, 32] (fun n vs H' => ∃ k : Nat, vs = [ptr g, .slice p l.length cp, ptr gc, ptr ge, .slice p l.length cp, .int .i64 l.length, .int .i64 k] ∧ n + k = l.length ∧ knE B [] l = knE B (l.take k) (l.drop k) ∧
        H' = ⟨M, .cells ge 33 [.int .i64 0] :: frA gc cost :: (bkA g a (.slice pb B.most.length cb) c d B ++ L)⟩) l.length rfl rfl (Weak.refl _) ⟨0, rfl, rfl, rfl, rfl⟩ ?_
      rintro n u vs H' ⟨k, rfl, hk, ht, rfl⟩
      conv => whnf
      refine ifC_dec (fun c3 => ?_) (fun c3 => ?_)
      · have hkl : k < l.length := by omega
        rw [List.drop_eq_getElem_cons hkl] at ht
        rw [knE_step] at ht
        have e2 : l.take k ++ [l[k]] = l.take (k + 1) := (List.take_succ_eq_append_getElem hkl).symm
        rw [e2, ← geti_at hkl] at ht
        conv => whnf
        obtain ⟨g', o, rfl, hcell⟩ := hc k (by omega) (by omega)
        refine ⟨g', o, rfl, by omega, ?_⟩
        conv => whnf
        refine ⟨_, hle0 _ _ _ hcell, ?_⟩
        conv => whnf
        refine ⟨k, rfl, by omega, ?_⟩
        conv => whnf
        refine c_known g a _ c d B (geti l k) _ (l.take k) _ hB hb0 (hv0.take k (by omega)) _ (fun c4 => ?_) (fun c4 => ?_)
        · conv => whnf
          repeat (refine ⟨_, wi (by omega), ?_⟩; conv => whnf)
          rw [if_pos c4] at ht
          exact ⟨rfl, rfl, n - 1, _, by omega, Weak.refl _, k + 1, rfl, by omega, ht, rfl⟩
        · conv => whnf
          rw [if_neg c4] at ht
          refine ⟨_, ge, _, Weak.refl _, rfl, rfl, 0, 0, rfl, ?_⟩
          conv => whnf
          refine ldS 0 rfl rfl ?_
          conv => whnf
          refine fin (weakK 2 rfl) (back _ ?_)
          rw [if_pos (by rw [ht]; exact c4), ht]
      · have : l.drop k = [] := List.drop_eq_nil_of_le (by omega)
        rw [this, knE_nil] at ht
        rw [if_neg (by simp [ht])] at back hR
        have hkn := knE_in ht
        conv => whnf
        refine c_Copy g a _ c d B _ hB hb0 _ ?_
        intro g2 a2 b2 c2' d2 hV2
        conv => whnf
        intro gs
        conv => whnf
        refine stC 0 rfl rfl (by first | (refine ⟨rfl, ?_⟩; repeat' (first | exact trivial | refine ⟨rfl, ?_⟩)) | simp [oneCells, Value.oneCell', setN]) ?_
        conv => whnf
        have hb1 := (hb0.mono (hle_pre (bkA g2 a2 b2 c2' d2 B) _)).mono (HLe.cons _ (.cells gs 4 [.bool false]))
        refine ⟨_, hb1.h 1 _ rfl, ?_⟩
        conv => whnf
        refine ⟨B.most.length, rfl, rfl, by omega, by simp [maxLen]; omega, fun gm => ?_⟩
        rw [repZ_ints]
        obtain ⟨pa2, na2, ca2, rfl⟩ := hV2.a.slice
        obtain ⟨pb2, nb2, cb2, rfl⟩ := hV2.b.slice
        obtain ⟨pc2, nc2, cc2, rfl⟩ := hV2.c.slice
        obtain ⟨pd2, nd2, cd2, rfl⟩ := hV2.d.slice
        have hgm : RowVal (.slice (some ⟨gm, 0, none⟩) B.most.length B.most.length) 1 (ints (List.replicate B.most.length 0)) := rowNew (by simp [ints_length]) (by omega)
        conv => whnf
        refine awp_loopD hT [caughtD ge] 118 [0, 1, 5, 6, 9, 10, 11, 12, 53, 54, 55] (fun n vs H' => ∃ (k : Nat) (sp : List Fr) (ov : Bool), vs = [ptr g, .slice p l.length cp, ptr gc, ptr ge, ptr g2, ptr gs, .func (.func 49) #[] #[ptr gs], .slice (some ⟨gm, 0, none⟩) B.most.length B.most.length, .slice p l.length cp, .int .i64 l.length, .int .i64 k] ∧ n + k = l.length ∧
          addAll B.lim cost l B.sp false = addAll B.lim cost (l.drop k) sp ov ∧ sp.length = B.lim.length ∧ (∀ x ∈ sp, okF x) ∧
          H' = ⟨M, .cells gs 4 [.bool ov] :: .row (.slice pa2 na2 ca2) 84 4 (accs B.lim sp) :: .row (.slice (some ⟨gm, 0, none⟩) B.most.length B.most.length) 3 1 (ints (cnts B (l.take k))) ::
            .cells g2 77 [.slice pa2 na2 ca2, .slice pb2 nb2 cb2, .slice pc2 nc2 cc2, .slice pd2 nd2 cd2] :: .row (.slice pb2 nb2 cb2) 84 4 (accs B.most B.owed) :: .row (.slice pc2 nc2 cc2) 3 1 (ints B.own) :: .row (.slice pd2 nd2 cd2) 4 1 (bools B.rem) ::
            .cells ge 33 [.int .i64 0] :: frA gc cost :: (bkA g a (.slice pb B.most.length cb) c d B ++ L)⟩) l.length rfl rfl (weakPull [1, 2, 0] rfl) ⟨0, B.sp, false, rfl, rfl, rfl, l1, hB.sp, by rw [show cnts B (l.take 0) = List.replicate B.most.length 0 from cnts_nil B]; rfl⟩ ?_
        rintro n u vs H' ⟨k, sp, ov, rfl, hk, hta, hsl, hsp, rfl⟩
        have hle1 : HLe ⟨M, bkA g a (.slice pb B.most.length cb) c d B ++ L⟩ ⟨M, .cells gs 4 [.bool ov] :: .row (.slice pa2 na2 ca2) 84 4 (accs B.lim sp) :: .row (.slice (some ⟨gm, 0, none⟩) B.most.length B.most.length) 3 1 (ints (cnts B (l.take k))) ::
            .cells g2 77 [.slice pa2 na2 ca2, .slice pb2 nb2 cb2, .slice pc2 nc2 cc2, .slice pd2 nd2 cd2] :: .row (.slice pb2 nb2 cb2) 84 4 (accs B.most B.owed) :: .row (.slice pc2 nc2 cc2) 3 1 (ints B.own) :: .row (.slice pd2 nd2 cd2) 4 1 (bools B.rem) ::
            .cells ge 33 [.int .i64 0] :: frA gc cost :: (bkA g a (.slice pb B.most.length cb) c d B ++ L)⟩ := hle_pre [_, _, _, _, _, _, _, _, _] _
        conv => whnf
        refine ifC_dec (fun c5 => ?_) (fun c5 => ?_)
        · have hkl : k < l.length := by omega
          rw [List.drop_eq_getElem_cons hkl, addAll_cons, ← geti_at hkl] at hta
          have hin := hkn _ (geti_mem (l := l) (i := (k : Int)) (by omega) (by omega))
          have e2 : l.take k ++ [geti l k] = l.take (k + 1) := by rw [geti_at hkl]; exact (List.take_succ_eq_append_getElem hkl).symm
          obtain ⟨g', o, hpp, hcell⟩ := hc k (by omega) (by omega)
          obtain ⟨q, hq⟩ : ∃ q : Nat, geti l k = q := ⟨(geti l k).toNat, by omega⟩
          rw [hq] at hta hin e2 hcell
          subst hpp
          conv => whnf
          refine ⟨g', o, rfl, by omega, ?_⟩
          conv => whnf
          refine ⟨_, hle1 _ _ _ hcell, ?_⟩
          conv => whnf
          have hspl : (accs B.lim sp).length = (accs B.lim B.sp).length := by rw [accs_length hsl, accs_length l1]
          obtain ⟨qa, ma, ea, ha⟩ := accsAt (H := ⟨M, [.row (.slice pa2 na2 ca2) 84 4 (accs B.lim sp)]⟩) hsl (readsRow List.mem_cons_self (hV2.a.len hspl))
          cases ea
          obtain ⟨ga2, oa2, rfl, _⟩ := ha q hin.1 hin.2
          refine awp_drawQ hT hM 8 (by kernel_rfl) ?_
          conv => whnf
          refine ldS 3 rfl rfl ?_
          conv => whnf
          refine ⟨ga2, oa2, rfl, by omega, ?_⟩
          conv => whnf
          refine ldA 8 rfl rfl ?_
          conv => whnf
          refine c_Ask1 gs ga2 oa2 _ ca2 B.lim sp q cost ov M _ hsl (by omega) (by omega) (hsp _ (getf_mem hin.1 (by omega))) (hB.lim _ (getf_mem hin.1 hin.2)) hcost (hV2.a.len hspl) _ (fun c6 => ?_) (fun c6 => ?_)
          · rw [if_pos c6] at hta
            conv => whnf
            refine ⟨_, ge, _, Weak.refl _, rfl, rfl, 7, 0, rfl, ?_⟩
            conv => whnf
            refine ldS 7 rfl rfl ?_
            conv => whnf
            rw [hta] at back
            exact fin (weakK 9 rfl) (back _ rfl)
          · rw [if_neg (by simp [c6])] at hta
            have hown := hB.own (geti B.own q) (geti_mem hin.1 (by omega))
            have hcl := cnt_le B.own (l.take k) (geti B.own q)
            rw [List.length_take] at hcl
            have hstep := cnts_step B (l.take k) q hown.1 hown.2
            rw [e2] at hstep
            have hgc := cnts_get B (l.take k) hown.1 hown.2
            generalize hsum : (addF (getf sp q) cost).1 = sum at *
            generalize (ov || decide (0 < cmpF sum (getf B.lim q))) = ov2 at *
            have hle2 : HLe ⟨M, bkA g a (.slice pb B.most.length cb) c d B ++ L⟩ ⟨M, .cells gs 4 [.bool ov2] :: .row (.slice (some ⟨ga2, oa2, none⟩) B.lim.length ca2) 84 4 (accs B.lim (sp.set q sum)) :: .row (.slice (some ⟨gm, 0, none⟩) B.most.length B.most.length) 3 1 (ints (cnts B (l.take k))) ::
              .cells g2 77 [.slice (some ⟨ga2, oa2, none⟩) B.lim.length ca2, .slice pb2 nb2 cb2, .slice pc2 nc2 cc2, .slice pd2 nd2 cd2] :: .row (.slice pb2 nb2 cb2) 84 4 (accs B.most B.owed) :: .row (.slice pc2 nc2 cc2) 3 1 (ints B.own) :: .row (.slice pd2 nd2 cd2) 4 1 (bools B.rem) ::
              .cells ge 33 [.int .i64 0] :: frA gc cost :: (bkA g a (.slice pb B.most.length cb) c d B ++ L)⟩ := hle_pre [_, _, _, _, _, _, _, _, _] _
            have hb2 := (bkAt (M := M) (L := L) (g := g) hV).mono hle2
            conv => whnf
            refine ⟨_, hb2.h 2 _ rfl, ?_⟩
            conv => whnf
            obtain ⟨qo, mo, eo, ho⟩ := intsAt hb2.c
            subst eo
            obtain ⟨go, oo, rfl, hoc⟩ := ho q hin.1 (by omega)
            refine ⟨go, oo, rfl, by omega, ?_⟩
            conv => whnf
            refine ⟨_, hoc, ?_⟩
            conv => whnf
            obtain ⟨q1, m1, e1, h1⟩ := intsAt (H := ⟨M, .cells gs 4 [.bool ov2] :: .row (.slice (some ⟨ga2, oa2, none⟩) B.lim.length ca2) 84 4 (accs B.lim (sp.set q sum)) :: .row (.slice (some ⟨gm, 0, none⟩) B.most.length B.most.length) 3 1 (ints (cnts B (l.take k))) ::
              .cells g2 77 [.slice (some ⟨ga2, oa2, none⟩) B.lim.length ca2, .slice pb2 nb2 cb2, .slice pc2 nc2 cc2, .slice pd2 nd2 cd2] :: .row (.slice pb2 nb2 cb2) 84 4 (accs B.most B.owed) :: .row (.slice pc2 nc2 cc2) 3 1 (ints B.own) :: .row (.slice pd2 nd2 cd2) 4 1 (bools B.rem) ::
              .cells ge 33 [.int .i64 0] :: frA gc cost :: (bkA g a (.slice pb B.most.length cb) (.slice (some ⟨go, oo, none⟩) B.own.length mo) d B ++ L)⟩) (l := cnts B (l.take k)) (v := .slice (some ⟨gm, 0, none⟩) B.most.length B.most.length)
              (readsRow (e := 3) (by simp) (hgm.len (by simp [ints_length, cnts_length])))
            obtain ⟨gm', om', e1', h1c⟩ := h1 (geti B.own q) hown.1 (by rw [cnts_length]; omega)
            simp only [Value.slice.injEq] at e1
            obtain ⟨e1, _, _⟩ := e1
            subst e1
            cases e1'
            refine ⟨gm, 0, rfl, by omega, ?_⟩
            conv => whnf
            refine ⟨_, h1c, ?_⟩
            conv => whnf
            refine ⟨(cnt B.own (l.take k) (geti B.own q) : Int) + 1, by rw [hgc]; exact wi (by omega), ?_⟩
            conv => whnf
            refine ⟨gm, 0, rfl, by omega, ?_⟩
            conv => whnf
            refine stW 2 rfl (geti B.own q).toNat (by omega) (by simp [ints_length, cnts_length]; omega) ⟨rfl, trivial⟩ (ints_set _ _ _) ?_
            rw [hstep]
            have hsp' : ∀ x ∈ sp.set q sum, okF x := fun x hx => by
              rcases List.mem_or_eq_of_mem_set hx with h | h
              · exact hsp x h
              · subst h; rw [← hsum]; exact addF_okF _ _
            conv => whnf
            repeat (refine ⟨_, wi (by omega), ?_⟩; conv => whnf)
            exact ⟨rfl, rfl, n - 1, _, by omega, Weak.refl _, k + 1, sp.set q sum, ov2, rfl, by omega, hta, by rw [List.length_set]; exact hsl, hsp', rfl⟩
        · have hd : l.drop k = [] := List.drop_eq_nil_of_le (by omega)
          rw [hd, addAll_nil] at hta
          have htl : l.take k = l := List.take_of_length_le (by omega)
          rw [htl]
          rw [hta] at back hR
          simp only at back hR
          rw [List.range_eq_range'] at back hR
          have hVa := hV2.a.len (ys := accs B.lim sp) (by rw [accs_length hsl, accs_length l1])
          have hgc := fun (o : Int) h0 h1 => cnts_get B l (o := o) h0 h1
          have hgm2 := hgm.len (ys := ints (cnts B l)) (by simp [ints_length, cnts_length])
          conv => whnf
          refine awp_loopD hT [caughtD ge] 118 [0, 1, 5, 6, 9, 10, 11, 81, 82, 83] (fun n vs H' => ∃ (k : Nat) (owed : List Fr) (ov' : Bool), vs = [ptr g, .slice p l.length cp, ptr gc, ptr ge, ptr g2, ptr gs, .func (.func 49) #[] #[ptr gs], .slice (some ⟨gm, 0, none⟩) B.most.length B.most.length, .int .i64 B.most.length, .int .i64 k] ∧ n + k = B.most.length ∧
            oweAll B l cost (List.range' 0 B.most.length) B.owed ov = oweAll B l cost (List.range' k n) owed ov' ∧ owed.length = B.most.length ∧ (∀ x ∈ owed, okF x) ∧
            H' = ⟨M, .cells gs 4 [.bool ov'] :: .row (.slice pb2 nb2 cb2) 84 4 (accs B.most owed) :: .row (.slice pa2 na2 ca2) 84 4 (accs B.lim sp) :: .row (.slice (some ⟨gm, 0, none⟩) B.most.length B.most.length) 3 1 (ints (cnts B l)) ::
              .cells g2 77 [.slice pa2 na2 ca2, .slice pb2 nb2 cb2, .slice pc2 nc2 cc2, .slice pd2 nd2 cd2] :: .row (.slice pc2 nc2 cc2) 3 1 (ints B.own) :: .row (.slice pd2 nd2 cd2) 4 1 (bools B.rem) ::
              .cells ge 33 [.int .i64 0] :: frA gc cost :: (bkA g a (.slice pb B.most.length cb) c d B ++ L)⟩) B.most.length rfl rfl (weakPull [0, 3, 0, 0, 0] rfl) ⟨0, B.owed, ov, rfl, rfl, rfl, l4, hB.owed, rfl⟩ ?_
          rintro n' u' vs' H' ⟨o, owed, ov', rfl, hko, hto, hol, hokf, rfl⟩
          conv => whnf
          refine ifC_dec (fun c7 => ?_) (fun c7 => ?_)
          · obtain ⟨n2', rfl⟩ : ∃ n2, n' = n2 + 1 := ⟨n' - 1, by omega⟩
            rw [List.range'_succ, oweAll_cons] at hto
            have hcl := cnt_le B.own l o
            obtain ⟨q1, m1, e1, h1⟩ := intsAt (H := ⟨M, .cells gs 4 [.bool ov'] :: .row (.slice pb2 nb2 cb2) 84 4 (accs B.most owed) :: .row (.slice pa2 na2 ca2) 84 4 (accs B.lim sp) :: .row (.slice (some ⟨gm, 0, none⟩) B.most.length B.most.length) 3 1 (ints (cnts B l)) ::
              .cells g2 77 [.slice pa2 na2 ca2, .slice pb2 nb2 cb2, .slice pc2 nc2 cc2, .slice pd2 nd2 cd2] :: .row (.slice pc2 nc2 cc2) 3 1 (ints B.own) :: .row (.slice pd2 nd2 cd2) 4 1 (bools B.rem) ::
              .cells ge 33 [.int .i64 0] :: frA gc cost :: (bkA g a (.slice pb B.most.length cb) c d B ++ L)⟩) (l := cnts B l) (v := .slice (some ⟨gm, 0, none⟩) B.most.length B.most.length) (readsRow (e := 3) (by simp) hgm2)
            obtain ⟨gm', om', e1', h1c⟩ := h1 o (by omega) (by rw [cnts_length]; omega)
            simp only [Value.slice.injEq] at e1
            obtain ⟨e1, _, _⟩ := e1
            subst e1
            cases e1'
            rw [hgc o (by omega) (by omega)] at h1c
            conv => whnf
            refine ⟨gm, 0, rfl, by omega, ?_⟩
            conv => whnf
            refine ⟨_, h1c, ?_⟩
            conv => whnf
            refine ifC_dec (fun c8 => ?_) (fun c8 => ?_)
            · rw [if_neg (by omega)] at hto
              conv => whnf
              refine c_Make _ _ (by omega) (by omega) _ _ ?_
              have hpart := mkF_ok (cnt B.own l o) l.length
              have hpe := mkF_part (k := cnt B.own l o) (n := l.length) (by omega) hcl hl
              conv => whnf
              refine c_must _ _ _ _ (fun _ => ?_) (fun h => absurd hpe h)
              generalize (mkF (cnt B.own l o) l.length).1 = part at *
              conv => whnf
              intro gp
              conv => whnf
              refine stC 0 rfl rfl (by first | (refine ⟨rfl, ?_⟩; repeat' (first | exact trivial | refine ⟨rfl, ?_⟩)) | simp [oneCells, Value.oneCell', setN]) ?_
              conv => whnf
              have hspl : (accs B.most owed).length = (accs B.most B.owed).length := by rw [accs_length hol, accs_length l4]
              have hVb := hV2.b.len hspl
              obtain ⟨qa, ma, ea, ha⟩ := accsAt (H := ⟨M, [.row (.slice pb2 nb2 cb2) 84 4 (accs B.most owed)]⟩) hol (readsRow List.mem_cons_self hVb)
              cases ea
              obtain ⟨gb2, ob2, rfl, _⟩ := ha o (by omega) (by omega)
              refine awp_drawE hT hM 13 (List.range 13) [12] [6] (by kernel_rfl) M (frA gp part :: .cells gs 4 [.bool ov'] :: .row (.slice (some ⟨gb2, ob2, none⟩) B.most.length cb2) 84 4 (accs B.most owed) :: .row (.slice pa2 na2 ca2) 84 4 (accs B.lim sp) :: .row (.slice (some ⟨gm, 0, none⟩) B.most.length B.most.length) 3 1 (ints (cnts B l)) ::
                .cells g2 77 [.slice pa2 na2 ca2, .slice (some ⟨gb2, ob2, none⟩) B.most.length cb2, .slice pc2 nc2 cc2, .slice pd2 nd2 cd2] :: .row (.slice pc2 nc2 cc2) 3 1 (ints B.own) :: .row (.slice pd2 nd2 cd2) 4 1 (bools B.rem) ::
                .cells ge 33 [.int .i64 0] :: frA gc cost :: (bkA g a (.slice pb B.most.length cb) c d B ++ L)) [] (by rw [List.append_nil]; exact Weak.refl _)
                (fun ch H' => (mulF cost part).2 ≠ 0 ∧ ch = [{ v := errV (mulF cost part).2, recovered := false }] ∧ Weak H' ⟨M, frA gp part :: .cells gs 4 [.bool ov'] :: .row (.slice (some ⟨gb2, ob2, none⟩) B.most.length cb2) 84 4 (accs B.most owed) :: .row (.slice pa2 na2 ca2) 84 4 (accs B.lim sp) :: .row (.slice (some ⟨gm, 0, none⟩) B.most.length B.most.length) 3 1 (ints (cnts B l)) ::
                .cells g2 77 [.slice pa2 na2 ca2, .slice (some ⟨gb2, ob2, none⟩) B.most.length cb2, .slice pc2 nc2 cc2, .slice pd2 nd2 cd2] :: .row (.slice pc2 nc2 cc2) 3 1 (ints B.own) :: .row (.slice pd2 nd2 cd2) 4 1 (bools B.rem) ::
                .cells ge 33 [.int .i64 0] :: frA gc cost :: (bkA g a (.slice pb B.most.length cb) c d B ++ L)⟩)
                (fun fr' hfr ch H' ⟨he, hch, hw⟩ => by
                  subst hch
                  have h6 : fr'.getD 6 undef = ptr ge := (List.cons.inj hfr).1
                  refine ⟨_, ge, _, hw, rfl, rfl, 8, 0, rfl, ?_⟩
                  refine nthF_iff.2 ?_
                  rw [h6]
                  conv => whnf
                  refine ldS 8 rfl rfl ?_
                  conv => whnf
                  rw [if_pos he] at hto
                  rw [hto] at back
                  exact fin (weakK 10 rfl) (back _ rfl)) ?_
              conv => whnf
              refine ldS 5 rfl rfl ?_
              conv => whnf
              refine ⟨gb2, ob2, rfl, by omega, ?_⟩
              conv => whnf
              refine ldA 9 rfl rfl ?_
              conv => whnf
              refine ldA 0 rfl rfl ?_
              conv => whnf
              refine c_Mul cost part hcost hpart.I _ _ ?_
              refine ⟨_, _, Weak.refl _, fun _ _ h => h, ?_⟩
              conv => whnf
              have hprod := mulF_okF cost part
              generalize hmul : mulF cost part = mm at *
              obtain ⟨prod, pe⟩ := mm
              simp only at *
              refine c_must prod pe _ _ (fun he => ?_) (fun he => ?_)
              · rw [if_neg (by simp [he])] at hto
                refine ⟨_, _, Weak.refl _, fun _ _ h => h, ?_⟩
                conv => whnf
                refine ⟨_, by rw [List.append_nil]; exact Weak.refl _, ?_⟩
                conv => whnf
                refine ACalls.weak (weakPull [1, 1] rfl) (c_Ask1 gs gb2 ob2 _ cb2 B.most owed o prod ov' M _ hol (by omega) (by omega) (hokf _ (getf_mem (by omega) (by omega))) (hB.most _ (getf_mem (by omega) (by omega))) hprod.I hVb _ (fun c9 => ?_) (fun c9 => ?_))
                · rw [if_pos c9] at hto
                  conv => whnf
                  refine ⟨_, ge, _, Weak.refl _, rfl, rfl, 8, 0, rfl, ?_⟩
                  conv => whnf
                  refine ldS 8 rfl rfl ?_
                  conv => whnf
                  rw [hto] at back
                  exact fin (weakK 10 rfl) (back _ rfl)
                · rw [if_neg (by simp [c9])] at hto
                  have hokf' : ∀ x ∈ owed.set o (addF (getf owed o) prod).1, okF x := fun x hx => by
                    rcases List.mem_or_eq_of_mem_set hx with h | h
                    · exact hokf x h
                    · subst h; exact addF_okF _ _
                  conv => whnf
                  repeat (refine ⟨_, wi (by omega), ?_⟩; conv => whnf)
                  exact ⟨rfl, rfl, n2', _, by omega, weakDel 2 rfl, o + 1, _, _, rfl, by omega, hto, by simpa using hol, hokf', rfl⟩
              · conv => whnf
                exact ⟨he, rfl, by rw [List.append_nil]; exact Weak.refl _⟩
            · rw [if_pos (by omega)] at hto
              have hokf' := hokf
              conv => whnf
              repeat (refine ⟨_, wi (by omega), ?_⟩; conv => whnf)
              exact ⟨rfl, rfl, n2', _, by omega, Weak.refl _, o + 1, _, _, rfl, by omega, hto, by simpa using hol, hokf', rfl⟩
          · have : n' = 0 := by omega
            subst this
            rw [List.range'_zero, oweAll_nil] at hto
            rw [hto] at back hR
            simp only at back hR
            conv => whnf
            refine ldS 0 rfl rfl ?_
            conv => whnf
            refine ifC_cases (fun c9 => ?_) (fun c9 => ?_)
            · conv => whnf
              subst c9
              refine stC 7 rfl rfl (by first | (refine ⟨rfl, ?_⟩; repeat' (first | exact trivial | refine ⟨rfl, ?_⟩)) | simp [oneCells, Value.oneCell', setN]) ?_
              conv => whnf
              refine ⟨.inr ⟨ge, rfl⟩, ?_⟩
              conv => whnf
              refine ldS 7 rfl rfl ?_
              conv => whnf
              exact fin (weakK 9 rfl) (back 22 rfl)
            · subst c9
              simp only [Bool.false_eq_true, if_false] at hR
              conv => whnf
              refine ldA 4 rfl rfl ?_
              conv => whnf
              refine stC 9 rfl rfl (by first | (refine ⟨rfl, ?_⟩; repeat' (first | exact trivial | refine ⟨rfl, ?_⟩)) | simp [oneCells, Value.oneCell', setN]) ?_
              conv => whnf
              refine stC 7 rfl rfl (by first | (refine ⟨rfl, ?_⟩; repeat' (first | exact trivial | refine ⟨rfl, ?_⟩)) | simp [oneCells, Value.oneCell', setN]) ?_
              conv => whnf
              refine ⟨.inr ⟨ge, rfl⟩, ?_⟩
              conv => whnf
              refine ldS 7 rfl rfl ?_
              conv => whnf
              exact fin ((weakPull [9, 2, 1, 3, 3] rfl).trans (weakSkip 5 9 rfl)) (hR _ _ _ _ ⟨hVa, hV2.b.len (by rw [accs_length hol, accs_length l4]), hV2.c, hV2.d⟩)
end Go.Proofs.Ytpblnfldhicfgaa.A
