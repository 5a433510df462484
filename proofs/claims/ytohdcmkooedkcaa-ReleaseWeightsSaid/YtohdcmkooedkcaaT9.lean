/- release: Weight. -/
import Derived.Test.YtohdcmkooedkcaaT8
import Derived.Test.YtohdcmkooedkcaaN2
namespace Go.Proofs.Ytohdcmkooedkcaa.A
open Go Go.RowKit
set_option linter.unusedVariables false
set_option linter.unusedSimpArgs false
set_option maxRecDepth 20000

def minM (many most : Int) : Int := if many < most then many else most
def badA (most n : Int) : Bool := decide (n < 0 ∨ n > most)
def wtOf (rs : List RV) (field cost : Int) (ans : List Int) (v : Nat) : Int := wtF (minM (cntL (fieldL rs field) v) (mostF cost)) (mostF cost) cost (geti ans v)
def wtUp (rs : List RV) (field cost : Int) (ans : List Int) (n : Nat) : List Int := (List.range n).map (wtOf rs field cost ans)
theorem wtUp_succ (rs : List RV) (field cost : Int) (ans : List Int) (n : Nat) : wtUp rs field cost ans (n + 1) = wtUp rs field cost ans n ++ [wtOf rs field cost ans n] := by simp [wtUp, List.range_succ]
theorem wtUp_len (rs : List RV) (field cost : Int) (ans : List Int) (n : Nat) : (wtUp rs field cost ans n).length = n := by simp [wtUp]
def wtT (sz : List Int) (rs : List RV) (field cost : Int) (ans : List Int) : List Int × Int :=
  if givenT (tbOf sz rs) field cost ≠ 0 then ([], givenT (tbOf sz rs) field cost) else
  if (ans.length : Int) ≠ geti sz field ∨ ans.any (badA (mostF cost)) = true then ([], 5) else (wtUp rs field cost ans ans.length, 0)
theorem minM_ok {l : List Int} {v : Int} {cost : Int} (h1 : 1 ≤ cost) (h2 : cost ≤ 12) : HidOk (minM (cntL l v) (mostF cost)) (mostF cost) cost := by
  have hm := mostF_bd h1 h2
  have hc := cntL_bd l v
  unfold minM
  refine ⟨by split <;> omega, by split <;> omega, by omega, by omega, h1, h2, hm.2.2⟩
theorem c_Weight1 (n most : Int) (g : Nat) (H : Hp) (hc : H.cell g 0 (.int .i64 most)) (R : Ending → Hp → Prop) (hR : R (.returned (.bool (badA most n))) H) : ACalls Try.prog 33 [.int .i64 n, ptr g] H R := by
  unfold badA at hR
  refine acalls_code hT Try.func33 rfl rfl ?_
  conv => whnf
  refine ifC_dec (fun h1 => ?_) (fun h1 => ?_)
  · conv => whnf
    refine ⟨rfl, ?_⟩
    conv => whnf
    rw [decide_eq_true (.inl h1)] at hR
    exact fin (Weak.refl _) hR
  · conv => whnf
    refine ⟨_, hc, ?_⟩
    conv => whnf
    refine ⟨rfl, ?_⟩
    conv => whnf
    have e : decide (most < n) = decide (n < 0 ∨ n > most) := by
      by_cases h : most < n
      · rw [decide_eq_true h, decide_eq_true (.inr h)]
      · rw [decide_eq_false h, decide_eq_false (by omega)]
    rw [e]
    exact fin (Weak.refl _) hR
set_option maxHeartbeats 2000000 in
theorem c_Weight (sv rv av : Value) (sz : List Int) (rs : List RV) (field cost : Int) (ans : List Int) (H : Hp) (h : TbAt H sv rv sz rs) (ho : okTb (tbOf sz rs)) (ha : IntsAt H av ans) (hal : ans.length ≤ 1000) (R : Ending → Hp → Prop)
    (hR : ∀ v', RowVal v' 1 (ints (wtT sz rs field cost ans).1) → R (.returned (.tuple #[v', .int .i64 (wtT sz rs field cost ans).2])) ⟨H.M, .row v' 3 1 (ints (wtT sz rs field cost ans).1) :: H.L⟩) :
    ACalls Try.prog 23 [.agg #[sv, rv], .int .i64 field, .int .i64 cost, av] H R := by
  obtain ⟨ps, cs, rfl, hcs⟩ := intsAt h.s
  obtain ⟨pr, cr, rfl, hcr⟩ := rvAt h.r
  obtain ⟨pa, ca, rfl, _, hca⟩ := ha.open
  have hsl : sz.length ≤ 1000 := ho.sl
  unfold wtT at hR
  refine acalls_code hT Try.func23 rfl rfl ?_
  conv => whnf
  intro g4
  conv => whnf
  refine ldA 0 rfl rfl ?_
  conv => whnf
  refine c_check _ _ sz rs field cost _ (h.mono (HLe.cons H _)) ho _ ?_
  by_cases hg : givenT (tbOf sz rs) field cost = 0
  · rw [if_neg (by rw [hg]; simp)] at hR
    obtain ⟨v0, f0, f1, c1, c12⟩ := given0 hg
    rw [show (tbOf sz rs).sizes = sz from rfl] at f1
    have hmb := mostF_bd c1 c12
    rw [hg]
    conv => whnf
    refine ldA 0 rfl rfl ?_
    conv => whnf
    refine c_counts _ _ sz rs field cost _ (h.mono (HLe.cons H _)) ho hg _ ?_
    intro g8 g9 gm es hes
    conv => whnf
    intro g11
    conv => whnf
    refine stC 0 rfl rfl (by first | (refine ⟨rfl, ?_⟩; repeat' (first | exact trivial | refine ⟨rfl, ?_⟩)) | simp [oneCells, Value.oneCell', setN]) ?_
    conv => whnf
    refine ldS 4 rfl rfl ?_
    conv => whnf
    obtain ⟨gs, os, rfl, hcell⟩ := hcs field f0 (by omega)
    refine ⟨gs, os, rfl, by omega, ?_⟩
    conv => whnf
    refine ⟨_, HLe.cell (hle_sub fun a ha => by simp [ha]) hcell, ?_⟩
    conv => whnf
    refine ifC_dec (fun h1 => ?_) (fun h1 => ?_)
    · conv => whnf
      refine ⟨rfl, ?_⟩
      conv => whnf
      rw [if_pos ((.inl (by omega)))] at hR
      exact fin ((weakK 5 rfl).trans (weakNil _ 3 1)) (hR _ (.inl ⟨rfl, rfl⟩))
    · conv => whnf
      refine c_ContainsFuncI _ ans _ (ha.mono (hle_sub fun a ha => by simp [ha])) 33 #[ptr g11] (badA (mostF cost)) (fun x hx R' hR' => c_Weight1 x (mostF cost) g11 _ (cellOwn List.mem_cons_self rfl) R' hR') _ ?_
      cases hb : ans.any (badA (mostF cost)) with
      | true =>
        conv => whnf
        refine ⟨rfl, ?_⟩
        conv => whnf
        rw [if_pos ((.inr hb))] at hR
        exact fin ((weakK 5 rfl).trans (weakNil _ 3 1)) (hR _ (.inl ⟨rfl, rfl⟩))
      | false =>
        rw [if_neg (by rw [hb]; simp; omega)] at hR
        conv => whnf
        refine awp_loopL hT 74 [2, 11, 12, 13, 45, 46, 47] (fun m vs H' => ∃ (k : Nat) (s : Value), vs = [.int .i64 cost, ptr g11, .func (.func 44) #[] #[ptr g8, ptr g9], s, .slice pa ans.length ca, .int .i64 ans.length, .int .i64 k] ∧ m + k = ans.length ∧ RowVal s 1 (ints (wtUp rs field cost ans k)) ∧
          H' = ⟨H.M, .row s 3 1 (ints (wtUp rs field cost ans k)) :: .cells g11 3 [.int .i64 (mostF cost)] :: .cells g8 3 [.int .i64 (mostF cost)] :: .cells g9 79 [.map (some gm)] :: .obj gm (imapObj es) :: .cells g4 31 [.slice (some ⟨gs, os, none⟩) sz.length cs, .slice pr rs.length cr] :: H.L⟩) ans.length rfl rfl (weakNil _ 3 1) ⟨0, .slice none 0 0, rfl, by omega, .inl ⟨rfl, rfl⟩, rfl⟩ ?_
        rintro m u vs H' ⟨k, s, rfl, hm, hs, rfl⟩
        have hwl := wtUp_len rs field cost ans k
        have hws := wtUp_succ rs field cost ans k
        obtain ⟨s1, s3, rfl⟩ := hs.cnt (by omega) (by rw [ints_length, Nat.mul_one])
        conv => whnf
        refine ifC_dec (fun h2 => ?_) (fun h2 => ?_)
        · have hkl : k < ans.length := by omega
          obtain ⟨ga, oa, rfl, hcella⟩ := hca k (by omega) (by omega)
          have hbk := List.any_eq_false.1 hb (geti ans k) (geti_mem (by omega) (by omega))
          have hbk : ¬ (geti ans k < 0 ∨ geti ans k > mostF cost) := by unfold badA at hbk; simpa using hbk
          have hok := minM_ok (l := fieldL rs field) (v := (k : Int)) c1 c12
          have hc0 := hok.c0
          have hcm := hok.cm
          have hHid := hidB_iff.2 hok
          conv => whnf
          refine ⟨ga, oa, rfl, by omega, ?_⟩
          conv => whnf
          refine ⟨_, HLe.cell (hle_sub fun a ha => by simp [ha]) hcella, ?_⟩
          conv => whnf
          refine awp_draw hT hM 10 (List.range 10) (by kernel_rfl) H.M (.row (.slice s1 (wtUp rs field cost ans k).length s3) 3 1 (ints (wtUp rs field cost ans k)) :: .cells g11 3 [.int .i64 (mostF cost)] :: .cells g8 3 [.int .i64 (mostF cost)] :: .cells g9 79 [.map (some gm)] :: .obj gm (imapObj es) :: .cells g4 31 [.slice (some ⟨gs, os, none⟩) sz.length cs, .slice pr rs.length cr] :: H.L) [] (by rw [List.append_nil]; exact Weak.refl _) ?_
          conv => whnf
          refine c_counts1 k (mostF cost) g8 g9 gm es (fieldL rs field) _ (cellOwn (e := 3) (cs := [.int .i64 (mostF cost)]) (by simp) rfl) (cellOwn (e := 79) (cs := [.map (some gm)]) (by simp) rfl) (.inr (by simp)) hes _ ?_
          refine ⟨_, _, Weak.refl _, fun _ _ h => h, ?_⟩
          conv => whnf
          rw [show (if cntL (fieldL rs field) (k : Int) < mostF cost then cntL (fieldL rs field) (k : Int) else mostF cost) = minM (cntL (fieldL rs field) (k : Int)) (mostF cost) from rfl]
          refine ldS 1 rfl rfl ?_
          conv => whnf
          refine c_Weights _ (mostF cost) cost (by omega) (by omega) (by omega) _ _ (fun hf => by rw [hHid] at hf; cases hf) (fun _ wv hwv => ?_)
          have hlw : (wtsL (minM (cntL (fieldL rs field) (k : Int)) (mostF cost)) (mostF cost) cost).length = (mostF cost + 1).toNat := wtsUp_len _ _ _ _
          obtain ⟨q1, q3, rfl⟩ := hwv.cnt (by omega) (by rw [ints_length, Nat.mul_one])
          obtain ⟨n, hn⟩ : ∃ n : Nat, geti ans k = n := ⟨(geti ans k).toNat, by omega⟩
          have hget : geti (wtsL (minM (cntL (fieldL rs field) (k : Int)) (mostF cost)) (mostF cost) cost) (geti ans k) = wtOf rs field cost ans k := by
            unfold wtOf
            rw [hn]
            unfold geti wtsL wtsUp
            rw [List.getD_eq_getElem?_getD, List.getElem?_map, List.getElem?_range (by omega)]
            rfl
          generalize hW : wtsL (minM (cntL (fieldL rs field) (k : Int)) (mostF cost)) (mostF cost) cost = W at *
          refine ⟨_, _ :: _, weakMid, fun _ _ h => h, ?_⟩
          conv => whnf
          refine ⟨_, Weak.perm List.perm_append_comm, ?_⟩
          conv => whnf
          refine ifC_neg (by rw [hlw]; omega) ?_
          obtain ⟨_, _, e1, hcw⟩ := intsAt (H := ⟨H.M, [.row (.slice q1 W.length q3) 3 1 (ints W)]⟩) (readsRow (e := 3) List.mem_cons_self hwv)
          cases e1
          obtain ⟨gw, ow, rfl, hcellw⟩ := hcw (geti ans k) (by omega) (by rw [hlw]; omega)
          rw [hget] at hcellw
          conv => whnf
          refine ⟨gw, ow, rfl, by rw [hlw]; omega, ?_⟩
          conv => whnf
          refine ⟨_, HLe.cell (hle_one List.mem_cons_self) hcellw, ?_⟩
          conv => whnf
          intro q
          conv => whnf
          refine ⟨H.M, _, ints (wtUp rs field cost ans k), ints [wtOf rs field cost ans k], readsNew rfl rfl, ints_one _, (weakDel 0 rfl).trans (weakPull [1] rfl), by rw [ints_length, ints_length, hwl]; simp; omega, by rw [ints_length, ints_length, hwl]; simp [maxLen]; omega, fun v' hv' => ?_⟩
          rw [← ints_append, ← hws] at hv' ⊢
          conv => whnf
          repeat (refine ⟨_, wi (by omega), ?_⟩; conv => whnf)
          exact ⟨rfl, rfl, m - 1, _, by omega, weakDel 1 rfl, k + 1, v', rfl, by omega, hv', rfl⟩
        · have hke : k = ans.length := by omega
          subst hke
          conv => whnf
          refine ⟨rfl, ?_⟩
          conv => whnf
          exact fin (weakSkip 1 5 rfl) (hR _ hs)
  · rw [if_pos hg] at hR
    conv => whnf
    refine ifC_pos (hg) ?_
    conv => whnf
    refine ⟨rfl, ?_⟩
    conv => whnf
    exact fin ((weakK 1 rfl).trans (weakNil _ 3 1)) (hR _ (.inl ⟨rfl, rfl⟩))
end Go.Proofs.Ytohdcmkooedkcaa.A
