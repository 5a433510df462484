/- dioramaref26: Script. -/
import Derived.Test.YtjgljgkfflojbaaD12
namespace Go.Proofs.Ytjgljgkfflojbaa.A
open Go Go.RowKit
set_option linter.unusedVariables false
set_option linter.unusedSimpArgs false
set_option maxRecDepth 20000

def sc26 (l : List Int) : Nat → List A26 × Int
  | 0 => ([], 0)
  | i + 1 =>
    if atv l (12 * i) 9 < 5 then ((sc26 l i).1 ++ [⟨0, 0, listF l (12 * i + 1) (sc26 l i).2, listF l (12 * i + 6) 9⟩], (sc26 l i).2 + 1)
    else if atv l (12 * i) 9 < 7 then ((sc26 l i).1 ++ [⟨1, atv l (12 * i + 1) 9, [], []⟩], (sc26 l i).2)
    else ((sc26 l i).1 ++ [⟨2, atv l (12 * i + 1) ((sc26 l i).2 + 1), [], []⟩], (sc26 l i).2)
def scN26 (l : List Int) : Nat := min 24 ((l.length + 11) / 12)
def script26 (l : List Int) : List A26 := (sc26 l (scN26 l)).1
structure okA (a : A26) : Prop where
  k : a.k = 0 ∨ a.k = 1 ∨ a.k = 2
  n : 0 ≤ a.n ∧ a.n ≤ 1000
  f : a.f.length ≤ 4 ∧ ∀ x ∈ a.f, 0 ≤ x ∧ x ≤ 1000
  p : a.p.length ≤ 4 ∧ ∀ x ∈ a.p, 0 ≤ x ∧ x ≤ 1000
theorem sc26_bd (l : List Int) : ∀ i, i ≤ 24 → 0 ≤ (sc26 l i).2 ∧ (sc26 l i).2 ≤ i ∧ (sc26 l i).1.length = i ∧ ∀ a ∈ (sc26 l i).1, okA a
  | 0, _ => ⟨by simp [sc26], by simp [sc26], by simp [sc26], by simp [sc26]⟩
  | i + 1, hi => by
    obtain ⟨h1, h2, h3, h4⟩ := sc26_bd l i (by omega)
    have hall : ∀ b : A26, okA b → ∀ a ∈ (sc26 l i).1 ++ [b], okA a := fun b hb a ha => by
      rcases List.mem_append.1 ha with ha | ha
      · exact h4 a ha
      · rw [List.mem_singleton.1 ha]; exact hb
    have hb1 := atv_bd l (12 * i + 1) 9 (by omega)
    have hb2 := atv_bd l (12 * i + 1) ((sc26 l i).2 + 1) (by omega)
    have hf := listF_bd l (12 * i + 1) (sc26 l i).2
    have hp := listF_bd l (12 * i + 6) 9
    simp only [sc26]
    split
    · exact ⟨by simp only; omega, by simp only; omega, by simp [h3], hall _ ⟨.inl rfl, by simp, ⟨hf.1, fun x hx => by have := hf.2.2 x hx; omega⟩, ⟨hp.1, fun x hx => by have := hp.2.2 x hx; omega⟩⟩⟩
    · split
      · exact ⟨h1, by simp only; omega, by simp [h3], hall _ ⟨.inr (.inl rfl), by simp only; omega, by simp, by simp⟩⟩
      · exact ⟨h1, by simp only; omega, by simp [h3], hall _ ⟨.inr (.inr rfl), by simp only; omega, by simp, by simp⟩⟩
theorem avs_length (cs : List AV) : (avs cs).length = cs.length * 4 := by
  induction cs with
  | nil => rfl
  | cons c cs ih => simp only [avs, List.flatMap_cons, List.length_append, List.length_cons] at *; rw [ih]; simp [avc]; omega
theorem avs_append (l m : List AV) : avs (l ++ m) = avs l ++ avs m := by simp [avs]
/-- The slices of acts, wherever the pieces N lie. -/
def AvN (M : Nat → Option Obj) (N : List Atom) (cs : List AV) : Prop := ∀ c ∈ cs, ∀ L, (∀ a ∈ N, a ∈ L) → Reads ⟨M, L⟩ c.fv 1 (ints c.a.f) ∧ Reads ⟨M, L⟩ c.pv 1 (ints c.a.p)
theorem nilR (H : Hp) : Reads H (.slice none 0 0) 1 (ints []) := ⟨none, 0, 0, rfl, Nat.le_refl _, rfl, fun h => absurd h (by omega)⟩
set_option maxHeartbeats 2000000 in
theorem c_Script26 (v : Value) (l : List Int) (H : Hp) (hv : IntsAt H v l) (R : Ending → Hp → Prop)
    (hR : ∀ v' cs N, cs.map (·.a) = script26 l → RowVal v' 4 (avs cs) → AvN H.M N cs → R (.returned v') ⟨H.M, .row v' 42 4 (avs cs) :: (N ++ H.L)⟩) : ACalls Try.prog 13 [v] H R := by
  obtain ⟨p, cp, rfl, _⟩ := hv.open
  refine acalls_code hT Try.func13 rfl rfl ?_
  conv => whnf
  refine awp_loopL hT 65 [0, 3, 4, 5] (fun m vs H' => ∃ (i : Nat) (s : Value) (cs : List AV) (N : List Atom), vs = [.slice p l.length cp, s, .int .i64 (sc26 l i).2, .int .i64 i] ∧ m + i = scN26 l ∧ cs.map (·.a) = (sc26 l i).1 ∧ RowVal s 4 (avs cs) ∧ AvN H.M N cs ∧
    H' = ⟨H.M, .row s 42 4 (avs cs) :: (N ++ H.L)⟩) (scN26 l) rfl rfl (weakNil H 42 4) ⟨0, .slice none 0 0, [], [], rfl, rfl, rfl, .inl ⟨rfl, rfl⟩, by intro c hc; simp at hc, rfl⟩ ?_
  rintro m u vs H' ⟨i, s, cs, N, rfl, hm, hcs, hs, hN, rfl⟩
  obtain ⟨s1, s2, s3, rfl⟩ := hs.slice
  have h24 : scN26 l ≤ 24 := by unfold scN26; omega
  obtain ⟨b1, b2, b3, b4⟩ := sc26_bd l i (by omega)
  have hcl : cs.length = i := by have := congrArg List.length hcs; rw [List.length_map, b3] at this; exact this
  conv => whnf
  repeat (refine ⟨_, wi (by omega), ?_⟩; conv => whnf)
  refine ifC_dec (fun h1 => ?_) (fun h1 => ?_)
  · conv => whnf
    refine ifC_dec (fun h2 => ?_) (fun h2 => ?_)
    · have hin : i < scN26 l := by unfold scN26; omega
      have hv' := hv.mono (H' := ⟨H.M, .row (.slice s1 s2 s3) 42 4 (avs cs) :: (N ++ H.L)⟩) ((hle_pre N H.L).trans (HLe.cons _ _))
      conv => whnf
      repeat (refine ⟨_, wi (by omega), ?_⟩; conv => whnf)
      refine c_At _ l _ _ (by omega) _ hv' _ ?_
      have hb9 := atv_bd l (12 * i) 9 (by omega)
      conv => whnf
      refine ifC_dec (fun h3 => ?_) (fun h3 => ?_)
      · have hsucc : sc26 l (i + 1) = ((sc26 l i).1 ++ [⟨0, 0, listF l (12 * i + 1) (sc26 l i).2, listF l (12 * i + 6) 9⟩], (sc26 l i).2 + 1) := by simp only [sc26]; rw [if_pos h3]
        have hf := listF_bd l (12 * i + 1) (sc26 l i).2
        have hp := listF_bd l (12 * i + 6) 9
        conv => whnf
        repeat (refine ⟨_, wi (by omega), ?_⟩; conv => whnf)
        refine c_list _ l (12 * i + 1) (sc26 l i).2 _ hv' (by omega) (by omega) _ ?_
        intro fv hfv
        obtain ⟨f1, f2, f3, rfl⟩ := hfv.slice
        conv => whnf
        repeat (refine ⟨_, wi (by omega), ?_⟩; conv => whnf)
        refine c_list _ l (12 * i + 6) 9 _ (hv'.mono (HLe.cons _ _)) (by omega) (by omega) _ ?_
        intro pv hpv
        obtain ⟨p1, p2, p3, rfl⟩ := hpv.slice
        conv => whnf
        intro q
        conv => whnf
        obtain ⟨x, ex⟩ : ∃ x : AV, x = ⟨.slice f1 f2 f3, .slice p1 p2 p3, ⟨0, 0, listF l (12 * i + 1) (sc26 l i).2, listF l (12 * i + 6) 9⟩⟩ := ⟨_, rfl⟩
        refine ⟨H.M, .row (.slice p1 p2 p3) 3 1 (ints (listF l (12 * i + 6) 9)) :: .row (.slice f1 f2 f3) 3 1 (ints (listF l (12 * i + 1) (sc26 l i).2)) :: (N ++ H.L), avs cs, avs [x], readsRow (e := 42) (v := .slice (some ⟨q, 0, none⟩) 1 1) (by rw [ex]; exact List.mem_cons_self) (rowNew (by rw [avs_length]; rfl) (by omega)), by rw [ex]; simp [avs, avc, Value.oneCell'],
          (weakPull [3] rfl).trans (weakDel 1 rfl), by rw [avs_length, avs_length]; simp; omega, by rw [avs_length, avs_length]; simp [maxLen]; omega, fun v' hv2 => ?_⟩
        rw [← avs_append] at *
        conv => whnf
        repeat (refine ⟨_, wi (by omega), ?_⟩; conv => whnf)
        refine ⟨rfl, rfl, m - 1, _, by omega, Weak.refl _, i + 1, v', cs ++ [x], .row (.slice p1 p2 p3) 3 1 (ints (listF l (12 * i + 6) 9)) :: .row (.slice f1 f2 f3) 3 1 (ints (listF l (12 * i + 1) (sc26 l i).2)) :: N, by rw [hsucc]; rfl, by omega, by rw [List.map_append, hcs, hsucc, ex]; rfl, hv2, fun c hc L hL => ?_, rfl⟩
        rcases List.mem_append.1 hc with hc | hc
        · exact hN c hc L fun a ha => hL a (List.mem_cons_of_mem _ (List.mem_cons_of_mem _ ha))
        · rw [List.mem_singleton.1 hc, ex]
          exact ⟨readsRow (e := 3) (hL _ (List.mem_cons_of_mem _ List.mem_cons_self)) hfv, readsRow (e := 3) (hL _ List.mem_cons_self) hpv⟩
      · conv => whnf
        refine ifC_dec (fun h4 => ?_) (fun h4 => ?_)
        · have hsucc : sc26 l (i + 1) = ((sc26 l i).1 ++ [⟨1, atv l (12 * i + 1) 9, [], []⟩], (sc26 l i).2) := by simp only [sc26]; rw [if_neg h3, if_pos h4]
          conv => whnf
          repeat (refine ⟨_, wi (by omega), ?_⟩; conv => whnf)
          refine c_At _ l _ _ (by omega) _ hv' _ ?_
          conv => whnf
          intro q
          conv => whnf
          obtain ⟨x, ex⟩ : ∃ x : AV, x = ⟨.slice none 0 0, .slice none 0 0, ⟨1, atv l (12 * i + 1) 9, [], []⟩⟩ := ⟨_, rfl⟩
          refine ⟨H.M, N ++ H.L, avs cs, avs [x], readsRow (e := 42) (v := .slice (some ⟨q, 0, none⟩) 1 1) (by rw [ex]; exact List.mem_cons_self) (rowNew (by rw [avs_length]; rfl) (by omega)), by rw [ex]; simp [avs, avc, Value.oneCell'],
            weakK 1 rfl, by rw [avs_length, avs_length]; simp; omega, by rw [avs_length, avs_length]; simp [maxLen]; omega, fun v' hv2 => ?_⟩
          rw [← avs_append] at *
          conv => whnf
          repeat (refine ⟨_, wi (by omega), ?_⟩; conv => whnf)
          refine ⟨rfl, rfl, m - 1, _, by omega, Weak.refl _, i + 1, v', cs ++ [x], N, by rw [hsucc]; rfl, by omega, by rw [List.map_append, hcs, hsucc, ex]; rfl, hv2, fun c hc L hL => ?_, rfl⟩
          rcases List.mem_append.1 hc with hc | hc
          · exact hN c hc L hL
          · rw [List.mem_singleton.1 hc, ex]
            exact ⟨nilR _, nilR _⟩
        · have hsucc : sc26 l (i + 1) = ((sc26 l i).1 ++ [⟨2, atv l (12 * i + 1) ((sc26 l i).2 + 1), [], []⟩], (sc26 l i).2) := by simp only [sc26]; rw [if_neg h3, if_neg h4]
          conv => whnf
          repeat (refine ⟨_, wi (by omega), ?_⟩; conv => whnf)
          refine c_At _ l _ _ (by omega) _ hv' _ ?_
          conv => whnf
          intro q
          conv => whnf
          obtain ⟨x, ex⟩ : ∃ x : AV, x = ⟨.slice none 0 0, .slice none 0 0, ⟨2, atv l (12 * i + 1) ((sc26 l i).2 + 1), [], []⟩⟩ := ⟨_, rfl⟩
          refine ⟨H.M, N ++ H.L, avs cs, avs [x], readsRow (e := 42) (v := .slice (some ⟨q, 0, none⟩) 1 1) (by rw [ex]; exact List.mem_cons_self) (rowNew (by rw [avs_length]; rfl) (by omega)), by rw [ex]; simp [avs, avc, Value.oneCell'],
            weakK 1 rfl, by rw [avs_length, avs_length]; simp; omega, by rw [avs_length, avs_length]; simp [maxLen]; omega, fun v' hv2 => ?_⟩
          rw [← avs_append] at *
          conv => whnf
          repeat (refine ⟨_, wi (by omega), ?_⟩; conv => whnf)
          refine ⟨rfl, rfl, m - 1, _, by omega, Weak.refl _, i + 1, v', cs ++ [x], N, by rw [hsucc]; rfl, by omega, by rw [List.map_append, hcs, hsucc, ex]; rfl, hv2, fun c hc L hL => ?_, rfl⟩
          rcases List.mem_append.1 hc with hc | hc
          · exact hN c hc L hL
          · rw [List.mem_singleton.1 hc, ex]
            exact ⟨nilR _, nilR _⟩
    · have hi : i = scN26 l := by unfold scN26 at *; omega
      subst hi
      conv => whnf
      refine ⟨rfl, ?_⟩
      conv => whnf
      exact fin (Weak.refl _) (hR _ cs N hcs hs hN)
  · have hi : i = scN26 l := by unfold scN26 at *; omega
    subst hi
    conv => whnf
    refine ⟨rfl, ?_⟩
    conv => whnf
    exact fin (Weak.refl _) (hR _ cs N hcs hs hN)
end Go.Proofs.Ytjgljgkfflojbaa.A
