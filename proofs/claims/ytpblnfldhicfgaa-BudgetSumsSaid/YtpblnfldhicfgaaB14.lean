/- The model's Remove and Ask. -/
import Derived.Test.YtpblnfldhicfgaaB13
namespace Go.Proofs.Ytpblnfldhicfgaa.A
open Go Go.RowKit
set_option linter.unusedVariables false
set_option linter.unusedSimpArgs false
set_option maxRecDepth 20000

theorem RowVal.len {v : Value} {sz : Nat} {xs ys : List Value} (h : RowVal v sz xs) (hl : ys.length = xs.length) : RowVal v sz ys := by
  rcases h with ⟨rfl, rfl⟩ | ⟨g, o, n, c, rfl, h1, h2, h3⟩
  · exact .inl ⟨rfl, List.length_eq_zero_iff.1 (by simpa using hl)⟩
  · exact .inr ⟨g, o, n, c, rfl, by omega, h2, h3⟩
theorem c_Remove24 (g : Nat) (a b c d e f : Value) (B : Bk) (i : Int) (M : Nat → Option Obj) (L : List Atom) (hB : okB B) (hV : RbV a b c d e f B) (R : Ending → Hp → Prop)
    (hR : RbV a b c d e f (remB B i).1 → R (.returned (.int .i64 (remB B i).2)) ⟨M, rbA g a b c d e f (remB B i).1 ++ L⟩) :
    ACalls Try.prog 40 [ptr g, .int .i64 i] ⟨M, rbA g a b c d e f B ++ L⟩ R := by
  have hb := rbAt (M := M) (L := L) (g := g) hV
  obtain ⟨pd, cd, rfl, hcd⟩ := boolsAt hb.d
  have hl3 := hB.l3
  unfold remB at hR
  refine acalls_code hT Try.func40 rfl rfl ?_
  conv => whnf
  refine ifC_dec (fun c1 => ?_) (fun c1 => ?_)
  · conv => whnf
    refine ⟨rfl, ?_⟩
    conv => whnf
    rw [if_pos (by omega)] at hR
    exact fin (Weak.refl _) (hR hV)
  · conv => whnf
    refine ⟨_, hb.h 3 _ rfl, ?_⟩
    conv => whnf
    refine ifC_dec (fun c2 => ?_) (fun c2 => ?_)
    · conv => whnf
      refine ⟨rfl, ?_⟩
      conv => whnf
      rw [if_pos (by omega)] at hR
      exact fin (Weak.refl _) (hR hV)
    · rw [if_neg (by omega)] at hR
      conv => whnf
      refine ⟨_, hb.h 3 _ rfl, ?_⟩
      conv => whnf
      obtain ⟨gd, od, rfl, h1⟩ := hcd i (by omega) (by omega)
      refine ⟨gd, od, rfl, by omega, ?_⟩
      conv => whnf
      refine ⟨_, h1, ?_⟩
      conv => whnf
      refine ifC_cases (fun h2 => ?_) (fun h2 => ?_)
      · conv => whnf
        refine ⟨rfl, ?_⟩
        conv => whnf
        rw [if_pos h2] at hR
        exact fin (Weak.refl _) (hR hV)
      · conv => whnf
        refine ⟨_, hb.h 3 _ rfl, ?_⟩
        conv => whnf
        refine ⟨gd, od, rfl, by omega, ?_⟩
        conv => whnf
        refine stW 4 rfl i.toNat (by rw [Nat.mul_one]) (by simp [bools_length]; omega) ⟨rfl, trivial⟩ (bools_set _ _ _) ?_
        conv => whnf
        refine ⟨rfl, ?_⟩
        conv => whnf
        rw [if_neg (by simp [h2])] at hR
        exact fin (Weak.refl _) (hR ⟨hV.a, hV.b, hV.c, hV.d.len (by simp [bools_length]), hV.e, hV.f⟩)

theorem frs_set (l : List Fr) (k : Nat) (a : Fr) : setN (frs l) (k * 2) a.cs = frs (l.set k a) := by
  induction l generalizing k with
  | nil => simp [frs, Fr.cs, setN]
  | cons b l ih =>
    cases k with
    | zero => simp [frs, Fr.cs, setN]
    | succ k =>
      have := ih k
      simp only [frs, Fr.cs, setN, List.flatMap_cons, List.set_cons_succ, List.cons_append, List.nil_append] at *
      rw [show (k + 1) * 2 = k * 2 + 1 + 1 by omega]
      simp only [List.set_cons_succ]
      rw [this]
/-- A store of a fraction into a row of them. -/
theorem stF {L : List Atom} {l : List Fr} {Φ : List Atom → Prop} {g o : Nat} {p : Option Addr} {n c : Nat} (i : Nat) (h : L[i]? = some (.row (.slice p n c) 24 2 (frs l))) (k : Nat) (a : Fr) (hk : k < l.length)
    (hp : p = some ⟨g, o, none⟩) (hΦ : Φ (L.set i (.row (.slice p n c) 24 2 (frs (l.set k a))))) : oneCells a.cs ∧ ∃ L', StoreTo L g (o + k * 2) a.cs L' ∧ Φ L' := by
  subst hp
  exact stW i h (k * 2) rfl (by rw [frs_length]; simp [Fr.cs]; omega) ⟨rfl, rfl, trivial⟩ (frs_set l k a) hΦ

theorem addAll_nil (lim : List Fr) (cost : Fr) (sp : List Fr) (ov : Bool) : addAll lim cost [] sp ov = .ok (sp, ov) := rfl
theorem addAll_cons (lim : List Fr) (cost : Fr) (p : Int) (r : List Int) (sp : List Fr) (ov : Bool) : addAll lim cost (p :: r) sp ov = if (addF (getf sp p) cost).2 ≠ 0 then .error (addF (getf sp p) cost).2 else
    addAll lim cost r (sp.set p.toNat (addF (getf sp p) cost).1) (ov || decide (0 < cmpF (addF (getf sp p) cost).1 (getf lim p))) := rfl
theorem oweAll_nil (B : Bk) (l : List Int) (cost : Fr) (owed : List Fr) (ov : Bool) : oweAll B l cost [] owed ov = .ok (owed, ov) := rfl
theorem oweAll_cons (B : Bk) (l : List Int) (cost : Fr) (o : Nat) (r : List Nat) (owed : List Fr) (ov : Bool) : oweAll B l cost (o :: r) owed ov = if cnt B.own l o = 0 then oweAll B l cost r owed ov else
    if (mulF cost (mkF (cnt B.own l o) l.length).1).2 ≠ 0 then .error (mulF cost (mkF (cnt B.own l o) l.length).1).2 else
    if (addF (getf owed o) (mulF cost (mkF (cnt B.own l o) l.length).1).1).2 ≠ 0 then .error (addF (getf owed o) (mulF cost (mkF (cnt B.own l o) l.length).1).1).2 else
    oweAll B l cost r (owed.set o (addF (getf owed o) (mulF cost (mkF (cnt B.own l o) l.length).1).1).1) (ov || decide (0 < cmpF (addF (getf owed o) (mulF cost (mkF (cnt B.own l o) l.length).1).1).1 (getf B.most o))) := rfl
theorem cnt_le (own l : List Int) (o : Int) : cnt own l o ≤ l.length := List.length_filter_le _ _
theorem cnt_snoc (own l : List Int) (x o : Int) : cnt own (l ++ [x]) o = if geti own x = o then cnt own l o + 1 else cnt own l o := by
  unfold cnt
  rw [List.filter_append, List.length_append]
  by_cases h : geti own x = o <;> simp [h]
/-- Who is asked is there. -/
theorem knE_in {B : Bk} : ∀ {l b : List Int}, knE B b l = 0 → ∀ x ∈ l, 0 ≤ x ∧ x < B.lim.length
  | [], _, _, x, hx => by simp at hx
  | p :: r, b, h, x, hx => by
    rw [knE_cons] at h
    split at h
    · omega
    · split at h
      · omega
      · split at h
        · omega
        · rcases List.mem_cons.1 hx with rfl | hx
          · omega
          · exact knE_in h x hx

theorem c_Ask24 (g : Nat) (a b c d e f : Value) (B : Bk) (v : Value) (l : List Int) (cost : Fr) (M : Nat → Option Obj) (L : List Atom) (hB : okB B) (hV : RbV a b c d e f B)
    (hv : IntsAt ⟨M, rbA g a b c d e f B ++ L⟩ v l) (hl : l.length ≤ 1000) (hcost : cost.I) (R : Ending → Hp → Prop)
    (hR : ∀ b' f', RbV a b' c d e f' (askB B l cost).1 → R (.returned (.int .i64 (askB B l cost).2)) ⟨M, rbA g a b' c d e f' (askB B l cost).1 ++ L⟩) :
    ACalls Try.prog 41 [ptr g, v, cost.v] ⟨M, rbA g a b c d e f B ++ L⟩ R := by
  obtain ⟨p, cp, rfl, hlc, hc⟩ := hv.open
  refine acalls_code hT Try.func41 rfl rfl ?_
  conv => whnf
  intro gc
  have hb := (rbAt (M := M) (L := L) (g := g) hV).mono (HLe.cons _ (frA gc cost))
  have hv' := hv.mono (HLe.cons _ (frA gc cost))
  have l1 := hB.l1; have n1 := hB.n1; have l4 := hB.l4; have n2 := hB.n2
  have back : ∀ k, askB B l cost = (B, k) → R (.returned (.int .i64 k)) ⟨M, rbA g a b c d e f B ++ L⟩ := fun k h => by
    have := hR b f
    rw [h] at this
    exact this hV
  conv => whnf
  refine ifC_dec (fun c1 => ?_) (fun c1 => ?_)
  · conv => whnf
    refine ⟨rfl, ?_⟩
    conv => whnf
    exact fin (weakK 1 rfl) (back 1 (if_pos (by simp_all)))
  · have hl0 : l.length ≠ 0 := by omega
    conv => whnf
    refine ldA 0 rfl rfl ?_
    conv => whnf
    refine c_IsCost cost hcost _ _ ?_
    conv => whnf
    refine ifC_cases (fun c2 => ?_) (fun c2 => ?_)
    · simp at c2
      conv => whnf
      refine ⟨rfl, ?_⟩
      conv => whnf
      exact fin (weakK 1 rfl) (back 1 (if_pos (by simp_all)))
    · simp at c2
      have c2 : okC cost := c2
      unfold askB at back hR
      rw [if_neg (by simp [hl0, c2])] at back hR
      conv => whnf
      refine c_known24 g a b c d e f B _ l _ hB hb hv' _ ?_
      conv => whnf
      refine ifC_dec (fun c3 => ?_) (fun c3 => ?_)
      · conv => whnf
        refine ⟨rfl, ?_⟩
        conv => whnf
        exact fin (weakK 1 rfl) (back _ (by rw [if_pos c3]))
      · rw [if_neg c3] at back hR
        have hkn := knE_in (Classical.not_not.1 c3)
        conv => whnf
        intro g1
        conv => whnf
        refine ⟨_, hb.h.mono (HLe.cons _ _) 1 _ rfl, ?_⟩
        conv => whnf
        have len1 := frs_length B.sp
        have len2 := frs_length B.owed
        refine ⟨M, _, [], frs B.sp, hb.b.mono (HLe.cons _ _), frs_one _, Weak.refl _, by simp; omega, by simp [maxLen]; omega, fun s8 r8 => ?_⟩
        conv => whnf
        intro g2
        conv => whnf
        refine ⟨_, hb.h.mono ((HLe.cons _ _).trans (HLe.cons _ _)) 5 _ rfl, ?_⟩
        conv => whnf
        refine ⟨M, _, [], frs B.owed, hb.f.mono ((HLe.cons _ _).trans (HLe.cons _ _)), frs_one _, Weak.refl _, by simp; omega, by simp [maxLen]; omega, fun s9 r9 => ?_⟩
        conv => whnf
        obtain ⟨q8, n8, m8, rfl⟩ := r8.slice
        obtain ⟨q9, n9, m9, rfl⟩ := r9.slice
        refine awp_loopL hT 171 [0, 1, 5, 8, 9, 10, 11] (fun n vs H' => ∃ (k : Nat) (sp : List Fr) (ov : Bool), vs = [ptr g, .slice p l.length cp, ptr gc, .slice q8 n8 m8, .slice q9 n9 m9, .bool ov, .int .i64 k] ∧ n + k = l.length ∧
          addAll B.lim cost l B.sp false = addAll B.lim cost (l.drop k) sp ov ∧ sp.length = B.lim.length ∧ (∀ x ∈ sp, okF x) ∧
          H' = ⟨M, .row (.slice q9 n9 m9) 24 2 (frs B.owed) :: .row (.slice q8 n8 m8) 24 2 (frs sp) :: frA gc cost :: (rbA g a b c d e f B ++ L)⟩) l.length rfl rfl (Weak.refl _) ⟨0, B.sp, false, rfl, rfl, rfl, l1, hB.sp, rfl⟩ ?_
        rintro n u vs H' ⟨k, sp, ov, rfl, hk, ht, hsl, hsp, rfl⟩
        have hle : HLe ⟨M, rbA g a b c d e f B ++ L⟩ ⟨M, .row (.slice q9 n9 m9) 24 2 (frs B.owed) :: .row (.slice q8 n8 m8) 24 2 (frs sp) :: frA gc cost :: (rbA g a b c d e f B ++ L)⟩ := ((HLe.cons _ _).trans (HLe.cons _ _)).trans (HLe.cons _ _)
        have hb := (rbAt (M := M) (L := L) (g := g) hV).mono hle
        conv => whnf
        refine ifC_dec (fun c4 => ?_) (fun c4 => ?_)
        · have hkl : k < l.length := by omega
          rw [List.drop_eq_getElem_cons hkl, addAll_cons, ← geti_at hkl] at ht
          have hin := hkn _ (geti_mem (l := l) (i := (k : Int)) (by omega) (by omega))
          conv => whnf
          obtain ⟨g', o, rfl, hcell⟩ := hc k (by omega) (by omega)
          refine ⟨g', o, rfl, by omega, ?_⟩
          conv => whnf
          refine ⟨_, hle _ _ _ hcell, ?_⟩
          conv => whnf
          have r8' := r8.len (ys := frs sp) (by simp [frs_length]; omega)
          obtain ⟨q, m, e8, h8⟩ := frsAt (H := ⟨M, .row (.slice q9 n9 m9) 24 2 (frs B.owed) :: .row (.slice q8 n8 m8) 24 2 (frs sp) :: frA gc cost :: (rbA g a b c d e f B ++ L)⟩) (readsRow (e := 24) (by simp) r8')
          cases e8
          obtain ⟨g8, o8, rfl, h8c⟩ := h8 _ hin.1 (by omega)
          refine awp_draw hT hM 11 (List.range 11) (by kernel_rfl) M _ [] (by rw [List.append_nil]; exact Weak.refl _) ?_
          conv => whnf
          refine ⟨g8, o8, rfl, by omega, ?_⟩
          conv => whnf
          refine ⟨_, rfl, h8c, ?_⟩
          conv => whnf
          refine ldA 2 rfl rfl ?_
          conv => whnf
          have hspk : okF (getf sp (geti l k)) := hsp _ (getf_mem hin.1 (by omega))
          refine c_Add04 (getf sp (geti l k)) cost hspk.I hcost _ _ ?_
          refine ⟨_, _, Weak.refl _, fun _ _ h => h, ?_⟩
          conv => whnf
          intro r
          conv => whnf
          refine stR 0 rfl rfl (by first | (refine ⟨rfl, ?_⟩; repeat' (first | exact trivial | refine ⟨rfl, ?_⟩)) | simp [oneCells, Value.oneCell', setN]) ?_
          conv => whnf
          refine ⟨_, _, Weak.refl _, fun _ _ h => h, ?_⟩
          conv => whnf
          refine ⟨_, Weak.perm List.perm_append_comm, ?_⟩
          conv => whnf
          refine ifC_dec (fun c5 => ?_) (fun c5 => ?_)
          · conv => whnf
            refine ⟨rfl, ?_⟩
            conv => whnf
            rw [if_pos c5] at ht
            rw [ht] at back
            exact fin (weakK 4 rfl) (back _ rfl)
          · rw [if_neg c5] at ht
            conv => whnf
            refine ldA 0 rfl rfl ?_
            conv => whnf
            refine ⟨g8, o8, rfl, by omega, ?_⟩
            conv => whnf
            refine stF 2 rfl _ _ (by omega) rfl ?_
            have hle' : HLe ⟨M, rbA g a b c d e f B ++ L⟩ ⟨M, frA r (addF (getf sp (geti l k)) cost).1 :: .row (.slice q9 n9 m9) 24 2 (frs B.owed) :: .row (.slice (some ⟨g8, o8, none⟩) sp.length m8) 24 2 (frs (sp.set (geti l k).toNat (addF (getf sp (geti l k)) cost).1)) :: frA gc cost :: (rbA g a b c d e f B ++ L)⟩ :=
              (((HLe.cons _ _).trans (HLe.cons _ _)).trans (HLe.cons _ _)).trans (HLe.cons _ _)
            have hb := (rbAt (M := M) (L := L) (g := g) hV).mono hle'
            have hsl' : (sp.set (geti l k).toNat (addF (getf sp (geti l k)) cost).1).length = B.lim.length := by rw [List.length_set]; exact hsl
            have hsp' : ∀ x ∈ sp.set (geti l k).toNat (addF (getf sp (geti l k)) cost).1, okF x := fun x hx => by
              rcases List.mem_or_eq_of_mem_set hx with h | h
              · exact hsp x h
              · subst h; exact addF_okF _ _
            conv => whnf
            refine awp_drawQ hT hM 13 (by kernel_rfl) ?_
            conv => whnf
            refine ifC_cases (fun c6 => ?_) (fun c6 => ?_)
            · subst c6
              rw [Bool.true_or] at ht
              conv => whnf
              repeat (refine ⟨_, wi (by omega), ?_⟩; conv => whnf)
              refine ⟨rfl, rfl, n - 1, _, by omega, weakK 1 rfl, k + 1, _, _, rfl, by omega, ht, hsl', hsp', rfl⟩
            · subst c6
              rw [Bool.false_or] at ht
              conv => whnf
              refine ldA 0 rfl rfl ?_
              conv => whnf
              refine ⟨_, hb.h 0 _ rfl, ?_⟩
              conv => whnf
              obtain ⟨qa, ma, ea, ha⟩ := frsAt hb.a
              subst ea
              obtain ⟨ga, oa, rfl, hac⟩ := ha _ hin.1 hin.2
              refine ⟨ga, oa, rfl, by omega, ?_⟩
              conv => whnf
              refine ⟨_, rfl, hac, ?_⟩
              conv => whnf
              refine c_Compare04 _ _ (addF_okF _ _).I (hB.lim _ (getf_mem hin.1 hin.2)).I _ _ ⟨Weak.refl _, ?_⟩
              conv => whnf
              repeat (refine ⟨_, wi (by omega), ?_⟩; conv => whnf)
              refine ⟨rfl, rfl, n - 1, _, by omega, weakK 1 rfl, k + 1, _, _, rfl, by omega, ht, hsl', hsp', rfl⟩
        · have hd : l.drop k = [] := List.drop_eq_nil_of_le (by omega)
          rw [hd, addAll_nil] at ht
          clear hb
          conv => whnf
          rw [ht] at back hR
          simp only at back hR
          rw [List.range_eq_range'] at back hR
          have r8 := r8.len (ys := frs sp) (by simp [frs_length]; omega)
          refine awp_loopL hT 171 [0, 1, 5, 8, 9, 10, 15] (fun n vs H' => ∃ (k : Nat) (owed : List Fr) (ov' : Bool), vs = [ptr g, .slice p l.length cp, ptr gc, .slice q8 n8 m8, .slice q9 n9 m9, .bool ov', .int .i64 k] ∧ n + k = B.most.length ∧
            oweAll B l cost (List.range' 0 B.most.length) B.owed ov = oweAll B l cost (List.range' k n) owed ov' ∧ owed.length = B.most.length ∧ (∀ x ∈ owed, okF x) ∧
            H' = ⟨M, .row (.slice q9 n9 m9) 24 2 (frs owed) :: .row (.slice q8 n8 m8) 24 2 (frs sp) :: frA gc cost :: (rbA g a b c d e f B ++ L)⟩) B.most.length rfl rfl (Weak.refl _) ⟨0, B.owed, ov, rfl, rfl, rfl, l4, hB.owed, rfl⟩ ?_
          rintro n' u' vs' H' ⟨o, owed, ov', rfl, hko, hto, hol, hokf, rfl⟩
          have hle : HLe ⟨M, rbA g a b c d e f B ++ L⟩ ⟨M, .row (.slice q9 n9 m9) 24 2 (frs owed) :: .row (.slice q8 n8 m8) 24 2 (frs sp) :: frA gc cost :: (rbA g a b c d e f B ++ L)⟩ := ((HLe.cons _ _).trans (HLe.cons _ _)).trans (HLe.cons _ _)
          have hb := (rbAt (M := M) (L := L) (g := g) hV).mono hle
          have r9' := r9.len (ys := frs owed) (by simp [frs_length]; omega)
          obtain ⟨q, m, e9, h9⟩ := frsAt (H := ⟨M, .row (.slice q9 n9 m9) 24 2 (frs owed) :: .row (.slice q8 n8 m8) 24 2 (frs sp) :: frA gc cost :: (rbA g a b c d e f B ++ L)⟩) (readsRow (e := 24) (by simp) r9')
          cases e9
          conv => whnf
          refine ifC_dec (fun c7 => ?_) (fun c7 => ?_)
          · have hom : o < B.most.length := by omega
            obtain ⟨n2', rfl⟩ : ∃ n2, n' = n2 + 1 := ⟨n' - 1, by omega⟩
            rw [List.range'_succ, oweAll_cons] at hto
            obtain ⟨g9, o9, rfl, h9c⟩ := h9 o (by omega) (by omega)
            conv => whnf
            refine awp_loopL hT 171 [0, 1, 5, 8, 9, 10, 15, 16, 17] (fun n vs H' => ∃ i : Nat, vs = [ptr g, .slice p l.length cp, ptr gc, .slice q8 n8 m8, .slice (some ⟨g9, o9, none⟩) owed.length m9, .bool ov', .int .i64 o, .int .i64 (cnt B.own (l.take i) o), .int .i64 i] ∧ n + i = l.length ∧
              H' = ⟨M, .row (.slice (some ⟨g9, o9, none⟩) owed.length m9) 24 2 (frs owed) :: .row (.slice q8 n8 m8) 24 2 (frs sp) :: frA gc cost :: (rbA g a b c d e f B ++ L)⟩) l.length rfl rfl (Weak.refl _) ⟨0, rfl, rfl, rfl⟩ ?_
            rintro n3 u3 vs3 H' ⟨i, rfl, hki, rfl⟩
            conv => whnf
            refine ifC_dec (fun c8 => ?_) (fun c8 => ?_)
            · have hil : i < l.length := by omega
              have hin := hkn _ (geti_mem (l := l) (i := (i : Int)) (by omega) (by omega))
              conv => whnf
              refine awp_drawQ hT hM 12 (by kernel_rfl) ?_
              conv => whnf
              refine ⟨_, hb.h 2 _ rfl, ?_⟩
              conv => whnf
              obtain ⟨g', o', rfl, hcell⟩ := hc i (by omega) (by omega)
              refine ⟨g', o', rfl, by omega, ?_⟩
              conv => whnf
              refine ⟨_, hle _ _ _ hcell, ?_⟩
              conv => whnf
              have l2 := hB.l2
              obtain ⟨qo, mo, eo, ho⟩ := intsAt hb.c
              subst eo
              obtain ⟨go, oo, rfl, hoc⟩ := ho (geti l i) hin.1 (by omega)
              refine ⟨go, oo, rfl, by omega, ?_⟩
              conv => whnf
              refine ⟨_, hoc, ?_⟩
              conv => whnf
              refine ifC_dec (fun c9 => ?_) (fun c9 => ?_)
              · conv => whnf
                refine ⟨_, wi (by have := cnt_le B.own (l.take i) o; simp at this; omega), ?_⟩
                conv => whnf
                repeat (refine ⟨_, wi (by omega), ?_⟩; conv => whnf)
                refine ⟨rfl, rfl, n3 - 1, _, by omega, Weak.refl _, i + 1, ?_, by omega, rfl⟩
                rw [List.take_succ_eq_append_getElem hil, ← geti_at hil, cnt_snoc, if_pos c9]
                rfl
              · conv => whnf
                repeat (refine ⟨_, wi (by omega), ?_⟩; conv => whnf)
                refine ⟨rfl, rfl, n3 - 1, _, by omega, Weak.refl _, i + 1, ?_, by omega, rfl⟩
                rw [List.take_succ_eq_append_getElem hil, ← geti_at hil, cnt_snoc, if_neg c9]
                rfl
            · have : i = l.length := by omega
              subst this
              rw [List.take_length]
              conv => whnf
              have hcl := cnt_le B.own l o
              refine ifC_dec (fun c10 => ?_) (fun c10 => ?_)
              · rw [if_pos (by omega)] at hto
                have hokf' := hokf
                conv => whnf
                repeat (refine ⟨_, wi (by omega), ?_⟩; conv => whnf)
                exact ⟨rfl, rfl, n2', _, by omega, weakK 0 rfl, o + 1, _, _, rfl, by omega, hto, by simpa using hol, hokf', rfl⟩
              · rw [if_neg (by omega)] at hto
                conv => whnf
                refine c_Make04 _ _ (by omega) (by omega) _ _ ?_
                conv => whnf
                intro r1
                conv => whnf
                refine stC 0 rfl rfl (by first | (refine ⟨rfl, ?_⟩; repeat' (first | exact trivial | refine ⟨rfl, ?_⟩)) | simp [oneCells, Value.oneCell', setN]) ?_
                conv => whnf
                refine ldA 3 rfl rfl ?_
                conv => whnf
                refine ldA 0 rfl rfl ?_
                conv => whnf
                have hpart := mkF_ok (cnt B.own l o) l.length
                generalize (mkF (cnt B.own l o) l.length).1 = part at *
                refine c_Mul04 cost part hcost hpart.I _ _ ?_
                have hprod := mulF_okF cost part
                generalize hmul : mulF cost part = mm at *
                obtain ⟨prod, pe⟩ := mm
                simp only at *
                conv => whnf
                intro r2
                conv => whnf
                refine stC 0 rfl rfl (by first | (refine ⟨rfl, ?_⟩; repeat' (first | exact trivial | refine ⟨rfl, ?_⟩)) | simp [oneCells, Value.oneCell', setN]) ?_
                conv => whnf
                refine ifC_dec (fun c11 => ?_) (fun c11 => ?_)
                · conv => whnf
                  refine ⟨rfl, ?_⟩
                  conv => whnf
                  rw [if_pos c11] at hto
                  rw [hto] at back
                  exact fin (weakK 5 rfl) (back _ rfl)
                · rw [if_neg c11] at hto
                  conv => whnf
                  refine awp_draw hT hM 11 (List.range 11) (by kernel_rfl) M _ [] (by rw [List.append_nil]; exact Weak.refl _) ?_
                  conv => whnf
                  refine ⟨g9, o9, rfl, by omega, ?_⟩
                  conv => whnf
                  refine ⟨_, rfl, h9c.mono ((HLe.cons _ _).trans (HLe.cons _ _)), ?_⟩
                  conv => whnf
                  refine ldA 0 rfl rfl ?_
                  conv => whnf
                  have hok : okF (getf owed o) := hokf _ (getf_mem (by omega) (by omega))
                  refine c_Add04 (getf owed o) prod hok.I hprod.I _ _ ?_
                  have hsum := addF_okF (getf owed o) prod
                  generalize hadd : addF (getf owed o) prod = ss at *
                  obtain ⟨sum, se⟩ := ss
                  simp only at *
                  refine ⟨_, _, Weak.refl _, fun _ _ h => h, ?_⟩
                  conv => whnf
                  intro r3
                  conv => whnf
                  refine stR 0 rfl rfl (by first | (refine ⟨rfl, ?_⟩; repeat' (first | exact trivial | refine ⟨rfl, ?_⟩)) | simp [oneCells, Value.oneCell', setN]) ?_
                  conv => whnf
                  refine ⟨_, _, Weak.refl _, fun _ _ h => h, ?_⟩
                  conv => whnf
                  refine ⟨_, Weak.perm List.perm_append_comm, ?_⟩
                  conv => whnf
                  refine ifC_dec (fun c12 => ?_) (fun c12 => ?_)
                  · conv => whnf
                    refine ⟨rfl, ?_⟩
                    conv => whnf
                    rw [if_pos c12] at hto
                    rw [hto] at back
                    exact fin (weakK 6 rfl) (back _ rfl)
                  · rw [if_neg c12] at hto
                    conv => whnf
                    refine ldA 0 rfl rfl ?_
                    conv => whnf
                    refine ⟨g9, o9, rfl, by omega, ?_⟩
                    conv => whnf
                    refine stF 3 rfl o sum (by omega) rfl ?_
                    have hokf' : ∀ x ∈ owed.set o sum, okF x := fun x hx => by
                      rcases List.mem_or_eq_of_mem_set hx with h | h
                      · exact hokf x h
                      · subst h; exact hsum
                    have hle' : HLe ⟨M, rbA g a b c d e f B ++ L⟩ ⟨M, frA r3 sum :: frA r2 prod :: frA r1 part :: .row (.slice (some ⟨g9, o9, none⟩) owed.length m9) 24 2 (frs (owed.set o sum)) :: .row (.slice q8 n8 m8) 24 2 (frs sp) :: frA gc cost :: (rbA g a b c d e f B ++ L)⟩ :=
                      (((((HLe.cons _ _).trans (HLe.cons _ _)).trans (HLe.cons _ _)).trans (HLe.cons _ _)).trans (HLe.cons _ _)).trans (HLe.cons _ _)
                    have hb := (rbAt (M := M) (L := L) (g := g) hV).mono hle'
                    conv => whnf
                    refine awp_drawQ hT hM 13 (by kernel_rfl) ?_
                    conv => whnf
                    refine ifC_cases (fun c13 => ?_) (fun c13 => ?_)
                    · subst c13
                      rw [Bool.true_or] at hto
                      conv => whnf
                      repeat (refine ⟨_, wi (by omega), ?_⟩; conv => whnf)
                      exact ⟨rfl, rfl, n2', _, by omega, weakK 3 rfl, o + 1, _, _, rfl, by omega, hto, by simpa using hol, hokf', rfl⟩
                    · subst c13
                      rw [Bool.false_or] at hto
                      conv => whnf
                      refine ldA 0 rfl rfl ?_
                      conv => whnf
                      refine ⟨_, hb.h 4 _ rfl, ?_⟩
                      conv => whnf
                      obtain ⟨qa, ma, ea, ha⟩ := frsAt hb.e
                      subst ea
                      obtain ⟨ga, oa, rfl, hac⟩ := ha o (by omega) (by omega)
                      refine ⟨ga, oa, rfl, by omega, ?_⟩
                      conv => whnf
                      refine ⟨_, rfl, hac, ?_⟩
                      conv => whnf
                      refine c_Compare04 _ _ hsum.I (hB.most _ (getf_mem (by omega) (by omega))).I _ _ ⟨Weak.refl _, ?_⟩
                      conv => whnf
                      repeat (refine ⟨_, wi (by omega), ?_⟩; conv => whnf)
                      exact ⟨rfl, rfl, n2', _, by omega, weakK 3 rfl, o + 1, _, _, rfl, by omega, hto, by simpa using hol, hokf', rfl⟩
          · have : n' = 0 := by omega
            subst this
            rw [List.range'_zero, oweAll_nil] at hto
            rw [hto] at back hR
            simp only at back hR
            conv => whnf
            refine ifC_cases (fun c14 => ?_) (fun c14 => ?_)
            · conv => whnf
              refine ⟨rfl, ?_⟩
              conv => whnf
              subst c14
              exact fin (weakK 3 rfl) (back 22 rfl)
            · subst c14
              simp only [Bool.false_eq_true, if_false] at hR
              conv => whnf
              refine stC 3 rfl rfl (by first | (refine ⟨rfl, ?_⟩; repeat' (first | exact trivial | refine ⟨rfl, ?_⟩)) | simp [oneCells, Value.oneCell', setN]) ?_
              conv => whnf
              refine stC 3 rfl rfl (by first | (refine ⟨rfl, ?_⟩; repeat' (first | exact trivial | refine ⟨rfl, ?_⟩)) | simp [oneCells, Value.oneCell', setN]) ?_
              conv => whnf
              refine ⟨rfl, ?_⟩
              conv => whnf
              refine fin (((weakPull [3, 3, 1, 3, 3, 3, 0] rfl).trans (weakDel 7 rfl)).trans ((weakDel 7 rfl).trans (weakDel 7 rfl))) (hR (.slice q8 n8 m8) _ ⟨hV.a, r8, hV.c, hV.d, hV.e, ?_⟩)
              exact r9'
end Go.Proofs.Ytpblnfldhicfgaa.A
