/- release: check, counts; dioramaref25: given, Most. -/
import Derived.Test.YtohdcmkooedkcaaT3
import Derived.Test.YtohdcmkooedkcaaN1
namespace Go.Proofs.Ytohdcmkooedkcaa.A
open Go Go.RowKit
set_option linter.unusedVariables false
set_option linter.unusedSimpArgs false
set_option maxRecDepth 20000

def givenT (t : Tb) (field cost : Int) : Int :=
  if validT t ≠ 0 then validT t else if field < 0 ∨ field ≥ t.sizes.length then 6 else if cost < 1 ∨ cost > 12 then 5 else 0
theorem given0 {t : Tb} {field cost : Int} (h : givenT t field cost = 0) : validT t = 0 ∧ 0 ≤ field ∧ field < t.sizes.length ∧ 1 ≤ cost ∧ cost ≤ 12 := by
  unfold givenT at h
  split at h
  · contradiction
  · rename_i hv
    split at h
    · omega
    · split at h
      · omega
      · exact ⟨Classical.not_not.1 hv, by omega, by omega, by omega, by omega⟩
theorem c_check (sv rv : Value) (sz : List Int) (rs : List RV) (field cost : Int) (H : Hp) (h : TbAt H sv rv sz rs) (ho : okTb (tbOf sz rs)) (R : Ending → Hp → Prop)
    (hR : R (.returned (.int .i64 (givenT (tbOf sz rs) field cost))) H) : ACalls Try.prog 31 [.agg #[sv, rv], .int .i64 field, .int .i64 cost] H R := by
  obtain ⟨ps, cs, rfl, _⟩ := intsAt h.s
  obtain ⟨pr, cr, rfl, _⟩ := rvAt h.r
  unfold givenT at hR
  rw [show (tbOf sz rs).sizes = sz from rfl] at hR
  refine acalls_code hT Try.func31 rfl rfl ?_
  conv => whnf
  intro g3
  conv => whnf
  refine ldA 0 rfl rfl ?_
  conv => whnf
  refine c_Valid _ _ sz rs _ (h.mono (HLe.cons H _)) ho _ ?_
  conv => whnf
  by_cases hv : validT (tbOf sz rs) = 0
  · rw [if_neg (by rw [hv]; simp)] at hR
    refine ifC_neg (by rw [hv]; simp) ?_
    conv => whnf
    refine ifC_dec (fun h1 => ?_) (fun h1 => ?_)
    · conv => whnf
      refine ⟨rfl, ?_⟩
      conv => whnf
      rw [if_pos (by omega)] at hR
      exact fin (weakK 1 rfl) hR
    · conv => whnf
      refine ldS 0 rfl rfl ?_
      conv => whnf
      refine ifC_dec (fun h2 => ?_) (fun h2 => ?_)
      · conv => whnf
        refine ⟨rfl, ?_⟩
        conv => whnf
        rw [if_pos (by omega)] at hR
        exact fin (weakK 1 rfl) hR
      · rw [if_neg (by omega)] at hR
        conv => whnf
        refine ifC_dec (fun h3 => ?_) (fun h3 => ?_)
        · conv => whnf
          refine ⟨rfl, ?_⟩
          conv => whnf
          rw [if_pos (by omega)] at hR
          exact fin (weakK 1 rfl) hR
        · conv => whnf
          refine ifC_dec (fun h4 => ?_) (fun h4 => ?_)
          · conv => whnf
            refine ⟨rfl, ?_⟩
            conv => whnf
            rw [if_pos (by omega)] at hR
            exact fin (weakK 1 rfl) hR
          · rw [if_neg (by omega)] at hR
            conv => whnf
            refine ⟨rfl, ?_⟩
            conv => whnf
            exact fin (weakK 1 rfl) hR
  · rw [if_pos hv] at hR
    refine ifC_pos (hv) ?_
    conv => whnf
    refine ⟨rfl, ?_⟩
    conv => whnf
    exact fin (weakK 1 rfl) hR
theorem c_given (sv rv : Value) (sz : List Int) (rs : List RV) (field cost : Int) (H : Hp) (h : TbAt H sv rv sz rs) (ho : okTb (tbOf sz rs)) (R : Ending → Hp → Prop)
    (hR : R (.returned (.int .i64 (givenT (tbOf sz rs) field cost))) H) : ACalls Try.prog 35 [.agg #[sv, rv], .int .i64 field, .int .i64 cost] H R := by
  obtain ⟨ps, cs, rfl, _⟩ := intsAt h.s
  obtain ⟨pr, cr, rfl, _⟩ := rvAt h.r
  unfold givenT at hR
  rw [show (tbOf sz rs).sizes = sz from rfl] at hR
  refine acalls_code hT Try.func35 rfl rfl ?_
  conv => whnf
  intro g3
  conv => whnf
  refine ldA 0 rfl rfl ?_
  conv => whnf
  refine c_ValidR _ _ sz rs _ (h.mono (HLe.cons H _)) ho _ ?_
  conv => whnf
  by_cases hv : validT (tbOf sz rs) = 0
  · rw [if_neg (by rw [hv]; simp)] at hR
    refine ifC_neg (by rw [hv]; simp) ?_
    conv => whnf
    refine ifC_dec (fun h1 => ?_) (fun h1 => ?_)
    · conv => whnf
      refine ⟨rfl, ?_⟩
      conv => whnf
      rw [if_pos (by omega)] at hR
      exact fin (weakK 1 rfl) hR
    · conv => whnf
      refine ldS 0 rfl rfl ?_
      conv => whnf
      refine ifC_dec (fun h2 => ?_) (fun h2 => ?_)
      · conv => whnf
        refine ⟨rfl, ?_⟩
        conv => whnf
        rw [if_pos (by omega)] at hR
        exact fin (weakK 1 rfl) hR
      · rw [if_neg (by omega)] at hR
        conv => whnf
        refine ifC_dec (fun h3 => ?_) (fun h3 => ?_)
        · conv => whnf
          refine ⟨rfl, ?_⟩
          conv => whnf
          rw [if_pos (by omega)] at hR
          exact fin (weakK 1 rfl) hR
        · conv => whnf
          refine ifC_dec (fun h4 => ?_) (fun h4 => ?_)
          · conv => whnf
            refine ⟨rfl, ?_⟩
            conv => whnf
            rw [if_pos (by omega)] at hR
            exact fin (weakK 1 rfl) hR
          · rw [if_neg (by omega)] at hR
            conv => whnf
            refine ⟨rfl, ?_⟩
            conv => whnf
            exact fin (weakK 1 rfl) hR
  · rw [if_pos hv] at hR
    refine ifC_pos (hv) ?_
    conv => whnf
    refine ⟨rfl, ?_⟩
    conv => whnf
    exact fin (weakK 1 rfl) hR
def mostF (cost : Int) : Int := (38 : Int).tdiv cost - 1
theorem mostF_bd {cost : Int} (h1 : 1 ≤ cost) (h2 : cost ≤ 12) : 2 ≤ mostF cost ∧ mostF cost ≤ 37 ∧ cost * (mostF cost + 1) ≤ 38 := by
  unfold mostF
  have : cost = 1 ∨ cost = 2 ∨ cost = 3 ∨ cost = 4 ∨ cost = 5 ∨ cost = 6 ∨ cost = 7 ∨ cost = 8 ∨ cost = 9 ∨ cost = 10 ∨ cost = 11 ∨ cost = 12 := by omega
  rcases this with rfl | rfl | rfl | rfl | rfl | rfl | rfl | rfl | rfl | rfl | rfl | rfl <;> decide
theorem tdiv38 {cost : Int} (h : cost ≠ 0) : -38 ≤ (38 : Int).tdiv cost ∧ (38 : Int).tdiv cost ≤ 38 := by
  have h1 := Int.natAbs_tdiv 38 cost
  have h2 : ((38 : Int).tdiv cost).natAbs ≤ 38 := by rw [h1]; exact Nat.div_le_self _ _
  omega
theorem c_Most (cost : Int) (hc : cost ≠ 0) (H : Hp) (R : Ending → Hp → Prop) (hR : R (.returned (.int .i64 (mostF cost))) H) : ACalls Try.prog 20 [.int .i64 cost] H R := by
  have := tdiv38 hc
  unfold mostF at hR
  refine acalls_code hT Try.func20 rfl rfl ?_
  conv => whnf
  refine ⟨hc, _, rfl, ?_⟩
  rw [← wi (by omega)]
  conv => whnf
  refine ⟨_, wi (by omega), ?_⟩
  conv => whnf
  refine ⟨rfl, ?_⟩
  conv => whnf
  exact fin (Weak.refl _) hR

/-! ### How many rows have a value -/
def cntL (l : List Int) (x : Int) : Int := (l.count x : Nat)
theorem cntL_snoc (l : List Int) (y x : Int) : cntL (l ++ [y]) x = cntL l x + if x = y then 1 else 0 := by
  unfold cntL
  rw [List.count_append]
  by_cases h : x = y
  · subst h; simp
  · have h' : ¬ y = x := fun e => h e.symm
    simp [h, h', List.count_cons]
theorem cntL_bd (l : List Int) (x : Int) : 0 ≤ cntL l x ∧ cntL l x ≤ l.length := by
  unfold cntL
  have := List.count_le_length (a := x) (l := l)
  omega
theorem mLook_upd (es : List (Int × Value)) (k : Int) (v : Value) (x : Int) : mLook (mUpd es k v) x = if x = k then some v else mLook es x := by
  induction es with
  | nil =>
    by_cases h : x = k
    · subst h; simp [mUpd, mLook]
    · have h' : ¬ k = x := fun e => h e.symm
      simp [mUpd, mLook, h, h']
  | cons p es ih =>
    obtain ⟨j, u⟩ := p
    unfold mUpd
    by_cases hjk : j = k
    · subst hjk
      rw [if_pos rfl]
      by_cases h : x = j
      · subst h; simp [mLook]
      · have h' : ¬ j = x := fun e => h e.symm
        simp [mLook, h, h']
    · rw [if_neg hjk]
      unfold mLook at ih ⊢
      rw [List.find?_cons, List.find?_cons]
      by_cases hjx : j = x
      · have hxk : ¬ x = k := fun e => hjk (hjx.trans e)
        simp [hjx, hxk]
      · simp only [hjx, decide_false]
        exact ih
def CntMap (es : List (Int × Value)) (l : List Int) : Prop := ∀ x, (mLook es x).getD (.int .i64 0) = .int .i64 (cntL l x)
theorem CntMap.snoc {es : List (Int × Value)} {l : List Int} (h : CntMap es l) (y : Int) : CntMap (mUpd es y (.int .i64 (cntL l y + 1))) (l ++ [y]) := fun x => by
  rw [mLook_upd, cntL_snoc]
  by_cases hx : x = y
  · subst hx; simp
  · rw [if_neg hx, if_neg hx, h x, Int.add_zero]
def fieldL (rs : List RV) (field : Int) : List Int := rs.map fun x => geti x.r.vs field
theorem c_counts1 (x most : Int) (g8 g9 gm : Nat) (es : List (Int × Value)) (l : List Int) (H : Hp) (h8 : H.cell g8 0 (.int .i64 most)) (h9 : H.cell g9 0 (.map (some gm))) (hm : HasMap H gm es) (hc : CntMap es l) (R : Ending → Hp → Prop)
    (hR : R (.returned (.int .i64 (if cntL l x < most then cntL l x else most))) H) : ACalls Try.prog 44 [.int .i64 x, ptr g8, ptr g9] H R := by
  refine acalls_code hT Try.func44 rfl rfl ?_
  conv => whnf
  refine ⟨_, h8, ?_⟩
  conv => whnf
  refine ⟨_, h9, ?_⟩
  conv => whnf
  refine ⟨_, hm, ?_⟩
  rw [hc x]
  conv => whnf
  refine ⟨rfl, ?_⟩
  conv => whnf
  exact fin (Weak.refl _) hR
set_option maxHeartbeats 1000000 in
theorem c_counts (sv rv : Value) (sz : List Int) (rs : List RV) (field cost : Int) (H : Hp) (h : TbAt H sv rv sz rs) (ho : okTb (tbOf sz rs)) (hv : givenT (tbOf sz rs) field cost = 0) (R : Ending → Hp → Prop)
    (hR : ∀ g8 g9 gm es, CntMap es (fieldL rs field) → R (.returned (.tuple #[.int .i64 (mostF cost), .func (.func 44) #[] #[ptr g8, ptr g9]])) ⟨H.M, .cells g8 3 [.int .i64 (mostF cost)] :: .cells g9 79 [.map (some gm)] :: .obj gm (imapObj es) :: H.L⟩) :
    ACalls Try.prog 32 [.agg #[sv, rv], .int .i64 field, .int .i64 cost] H R := by
  obtain ⟨v0, f0, f1, c1, c12⟩ := given0 hv
  rw [show (tbOf sz rs).sizes = sz from rfl] at f1
  obtain ⟨ps, cs, rfl, _⟩ := intsAt h.s
  obtain ⟨pr, cr, rfl, hcr⟩ := rvAt h.r
  have hrl := ho.rl
  rw [tbOf_rows] at hrl
  have hmb := mostF_bd c1 c12
  have ht38 := tdiv38 (cost := cost) (by omega)
  obtain ⟨_, _, _, hbad, _⟩ := valid0 v0
  refine acalls_code hT Try.func32 rfl rfl ?_
  conv => whnf
  intro g3
  conv => whnf
  refine ⟨by omega, _, rfl, ?_⟩
  rw [← wi (by omega)]
  conv => whnf
  refine ⟨_, wi (by omega), ?_⟩
  rw [show (38 : Int).tdiv cost - 1 = mostF cost from rfl]
  conv => whnf
  intro g8
  conv => whnf
  refine stC 0 rfl rfl (by first | (refine ⟨rfl, ?_⟩; repeat' (first | exact trivial | refine ⟨rfl, ?_⟩)) | simp [oneCells, Value.oneCell', setN]) ?_
  conv => whnf
  intro gm
  conv => whnf
  intro g9
  conv => whnf
  refine stC 0 rfl rfl (by first | (refine ⟨rfl, ?_⟩; repeat' (first | exact trivial | refine ⟨rfl, ?_⟩)) | simp [oneCells, Value.oneCell', setN]) ?_
  conv => whnf
  refine ldS 3 rfl rfl ?_
  conv => whnf
  refine awp_loopL hT 34 [1, 8, 9, 17, 18, 19] (fun m vs H' => ∃ (k : Nat) (es : List (Int × Value)), vs = [.int .i64 field, ptr g8, ptr g9, .slice pr rs.length cr, .int .i64 rs.length, .int .i64 k] ∧ m + k = rs.length ∧ CntMap es (fieldL (rs.take k) field) ∧
    H' = ⟨H.M, .cells g9 79 [.map (some gm)] :: .obj gm (imapObj es) :: .cells g8 3 [.int .i64 (mostF cost)] :: .cells g3 31 [.slice ps sz.length cs, .slice pr rs.length cr] :: H.L⟩) rs.length rfl rfl (Weak.refl _) ⟨0, [], rfl, by omega, fun x => rfl, rfl⟩ ?_
  rintro m u vs H' ⟨k, es, rfl, hm, hes, rfl⟩
  conv => whnf
  refine ifC_dec (fun h1 => ?_) (fun h1 => ?_)
  · have hkl : k < rs.length := by omega
    have hmem := List.getElem_mem hkl
    have hgood := (badRw_iff.1 (by simpa using List.any_eq_false.1 hbad rs[k].r (List.mem_map.2 ⟨_, hmem, rfl⟩))).1
    rw [show (tbOf sz rs).sizes = sz from rfl] at hgood
    obtain ⟨gr, or', rfl, hce⟩ := hcr k hkl
    obtain ⟨pv, cv, ev, hcv⟩ := intsAt (h.v _ hmem)
    obtain ⟨gv, ov, rfl, hcell⟩ := hcv field (by omega) (by omega)
    have hcb := cntL_bd (fieldL (rs.take k) field) (geti rs[k].r.vs field)
    have hfl : (fieldL (rs.take k) field).length ≤ 1000 := by simp [fieldL]; omega
    have hsucc : fieldL (rs.take (k + 1)) field = fieldL (rs.take k) field ++ [geti rs[k].r.vs field] := by unfold fieldL; rw [List.take_succ_eq_append_getElem hkl, List.map_append]; rfl
    conv => whnf
    refine ⟨gr, or', rfl, by omega, ?_⟩
    conv => whnf
    refine ⟨rvc rs[k], rfl, hce.mono (hle_sub fun a ha => by simp [ha]), ?_⟩
    unfold rvc
    rw [ev]
    conv => whnf
    intro g11
    conv => whnf
    refine stC 0 rfl rfl (by first | (refine ⟨rfl, ?_⟩; repeat' (first | exact trivial | refine ⟨rfl, ?_⟩)) | simp [oneCells, Value.oneCell', setN]) ?_
    conv => whnf
    refine awp_drawQ hT hM 8 (by kernel_rfl) ?_
    conv => whnf
    refine ldS 1 rfl rfl ?_
    conv => whnf
    refine ldS 0 rfl rfl ?_
    conv => whnf
    refine ⟨gv, ov, rfl, by omega, ?_⟩
    conv => whnf
    refine ⟨_, HLe.cell (hle_sub fun a ha => by simp [ha]) hcell, ?_⟩
    conv => whnf
    refine ⟨_, .inr (List.mem_cons_of_mem _ (List.mem_cons_of_mem _ List.mem_cons_self)), ?_⟩
    rw [hes]
    conv => whnf
    refine ⟨_, wi (by omega), ?_⟩
    conv => whnf
    refine ⟨2, _, rfl, ?_⟩
    conv => whnf
    repeat (refine ⟨_, wi (by omega), ?_⟩; conv => whnf)
    exact ⟨rfl, rfl, m - 1, _, by omega, weakK 1 rfl, k + 1, _, rfl, by omega, by rw [hsucc]; exact hes.snoc _, rfl⟩
  · have hke : k = rs.length := by omega
    subst hke
    rw [List.take_length] at hes
    conv => whnf
    refine ldS 2 rfl rfl ?_
    conv => whnf
    refine ⟨rfl, ?_⟩
    conv => whnf
    exact fin ((weakPull [2, 0, 0] rfl).trans (weakSkip 3 1 rfl)) (hR g8 g9 gm es hes)
end Go.Proofs.Ytohdcmkooedkcaa.A
