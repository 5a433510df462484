/- dioramaref25: Bent. -/
import Derived.Test.YtohdcmkooedkcaaT6
import Derived.Test.YtohdcmkooedkcaaT7
namespace Go.Proofs.Ytohdcmkooedkcaa.A
open Go Go.RowKit
set_option linter.unusedVariables false
set_option linter.unusedSimpArgs false
set_option maxRecDepth 20000

structure smT (n : Nat) (sz : List Int) (rs : List RV) : Prop where
  s : sz.length ≤ n
  si : ∀ x ∈ sz, I64 x
  r : rs.length ≤ n
  x : ∀ x ∈ rs, I64 x.r.p ∧ x.r.vs.length ≤ n ∧ ∀ y ∈ x.r.vs, I64 y
theorem smT.mono {n m : Nat} {sz : List Int} {rs : List RV} (h : smT n sz rs) (hn : n ≤ m) : smT m sz rs :=
  ⟨by have := h.s; omega, h.si, by have := h.r; omega, fun x hx => by have := h.x x hx; exact ⟨this.1, by omega, this.2.2⟩⟩
theorem smT.ok {n : Nat} {sz : List Int} {rs : List RV} (h : smT n sz rs) (hn : n ≤ 1000) : okTb (tbOf sz rs) :=
  okTb_of (by have := h.s; omega) h.si (by have := h.r; omega) fun x hx => by have := h.x x hx; exact ⟨this.1, by omega, this.2.2⟩
def VA (rs : List RV) : List Atom := rs.map fun x => .row x.v 3 1 (ints x.r.vs)
theorem VA_append (a b : List RV) : VA (a ++ b) = VA a ++ VA b := by simp [VA]
theorem VA_reads {M : Nat → Option Obj} {L : List Atom} {rs : List RV} (hV : ∀ x ∈ rs, RowVal x.v 1 (ints x.r.vs)) (hL : ∀ a ∈ VA rs, a ∈ L) : ∀ x ∈ rs, Reads ⟨M, L⟩ x.v 1 (ints x.r.vs) := fun x hx =>
  readsRow (e := 3) (hL _ (List.mem_map.2 ⟨x, hx, rfl⟩)) (hV x hx)
theorem weakEnd {M : Nat → Option Obj} {a : Atom} {A V L : List Atom} : Weak ⟨M, a :: (A ++ (V ++ L))⟩ ⟨M, A ++ ((V ++ [a]) ++ L)⟩ := by
  refine Weak.perm (List.perm_middle.symm.trans (List.Perm.append_left A ?_))
  rw [List.append_assoc]
  exact List.perm_middle.symm
theorem setI {l : List Int} {k : Nat} {y : Int} (h : ∀ x ∈ l, I64 x) (hy : I64 y) : ∀ x ∈ l.set k y, I64 x := fun x hx =>
  (List.mem_or_eq_of_mem_set hx).elim (h x) fun e => e ▸ hy
theorem smT.mk2 {n m : Nat} {sz : List Int} {rs r2 : List RV} (h : smT n sz rs) (hx : ∀ x ∈ r2, I64 x.r.p ∧ x.r.vs.length ≤ n ∧ ∀ y ∈ x.r.vs, I64 y) (hl : r2.length ≤ n ∧ n ≤ m) : smT m sz r2 :=
  ⟨by have := h.s; omega, h.si, by omega, fun x hx' => by have := hx x hx'; exact ⟨this.1, by omega, this.2.2⟩⟩
theorem rvs_setp {xs : List RV} {k : Nat} (hk : k < xs.length) (z : Int) : setN (rvs xs) (k * 2) [.int .i64 z] = rvs (xs.set k ⟨xs[k].v, ⟨z, xs[k].r.vs⟩⟩) := by
  induction xs generalizing k with
  | nil => simp at hk
  | cons a r ih =>
    cases k with
    | zero => simp [rvs, rvc, setN]
    | succ k =>
      have := ih (k := k) (by simpa using hk)
      simp only [rvs, rvc, setN, List.flatMap_cons, List.set_cons_succ, List.cons_append, List.nil_append, List.getElem_cons_succ] at *
      rw [show (k + 1) * 2 = k * 2 + 1 + 1 by omega]
      simp only [List.set_cons_succ]
      rw [this]
theorem rvs_setv {xs : List RV} {k : Nat} (hk : k < xs.length) (v : Value) (r : Rw) (hr : r.p = xs[k].r.p) : setN (rvs xs) (k * 2 + 1) [v] = rvs (xs.set k ⟨v, r⟩) := by
  induction xs generalizing k with
  | nil => simp at hk
  | cons a l ih =>
    cases k with
    | zero => simp only [List.getElem_cons_zero] at hr; simp [rvs, rvc, setN, hr]
    | succ k =>
      have := ih (k := k) (by simpa using hk) (by simpa using hr)
      simp only [rvs, rvc, setN, List.flatMap_cons, List.set_cons_succ, List.cons_append, List.nil_append] at *
      rw [show (k + 1) * 2 = k * 2 + 1 + 1 by omega]
      simp only [List.set_cons_succ]
      rw [this]
theorem rvs_same {xs : List RV} {k : Nat} (hk : k < xs.length) (x : RV) (h1 : x.v = xs[k].v) (h2 : x.r.p = xs[k].r.p) : rvs (xs.set k x) = rvs xs := by
  induction xs generalizing k with
  | nil => simp at hk
  | cons a l ih =>
    cases k with
    | zero => simp only [List.getElem_cons_zero] at h1 h2; simp [rvs, rvc, h1, h2]
    | succ k =>
      have := ih (k := k) (by simpa using hk) (by simpa using h1) (by simpa using h2)
      simp only [rvs, List.set_cons_succ, List.flatMap_cons] at *
      rw [this]
theorem mem_set_casesG {α : Type} {l : List α} {i : Nat} {a b : α} (h : b ∈ l.set i a) : b = a ∨ ∃ j, j ≠ i ∧ l[j]? = some b := mem_set_cases h
set_option maxHeartbeats 8000000 in
theorem c_Bent (sv rv : Value) (sz : List Int) (rs : List RV) (at' how by' : Int) (n : Nat) (H : Hp) (h : TbAt H sv rv sz rs) (hs : smT n sz rs) (hn : n ≤ 500) (hat : I64 at') (hh : I64 how) (hy : I64 by') (R : Ending → Hp → Prop)
    (hR : ∀ sv' rv' sz' rs' N, TbAt ⟨H.M, N⟩ sv' rv' sz' rs' → smT (n + 70) sz' rs' → R (.returned (.agg #[sv', rv'])) ⟨H.M, N ++ H.L⟩) :
    ACalls Try.prog 7 [.agg #[sv, rv], .int .i64 at', .int .i64 how, .int .i64 by'] H R := by
  obtain ⟨ps, cs, rfl, _⟩ := intsAt h.s
  obtain ⟨pr, cr, rfl, hcr⟩ := rvAt h.r
  have hrl := hs.r
  have hsl := hs.s
  refine acalls_code hT Try.func7 rfl rfl ?_
  conv => whnf
  intro g4
  conv => whnf
  intro g8
  conv => whnf
  intro q0
  conv => whnf
  refine ldS 2 rfl rfl ?_
  conv => whnf
  refine ⟨H.M, _, [], ints sz, h.s.mono (hle_sub fun a ha => by simp [ha]), ints_one _, Weak.refl _, by rw [ints_length]; simp; omega, by rw [ints_length]; simp [maxLen]; omega, fun sv2 hsv2 => ?_⟩
  rw [List.nil_append] at *
  obtain ⟨a1, a3, rfl⟩ := hsv2.cnt (by omega) (by rw [ints_length, Nat.mul_one])
  conv => whnf
  intro g9
  conv => whnf
  refine stC 0 rfl rfl (by first | (refine ⟨rfl, ?_⟩; repeat' (first | exact trivial | refine ⟨rfl, ?_⟩)) | simp [oneCells, Value.oneCell', setN]) ?_
  conv => whnf
  -- the rows are copied
  refine awp_loopL hT 197 [1, 2, 3, 4, 8, 9, 10] (fun m vs H' => ∃ (k : Nat) (s : Value) (r2 : List RV), vs = [.int .i64 at', .int .i64 how, .int .i64 by', ptr g4, ptr g8, ptr g9, .int .i64 k] ∧ m + k = rs.length ∧ r2.map (·.r) = (rs.take k).map (·.r) ∧ RowVal s 2 (rvs r2) ∧ (∀ x ∈ r2, RowVal x.v 1 (ints x.r.vs)) ∧
    H' = ⟨H.M, .row s 60 2 (rvs r2) :: .row (.slice a1 sz.length a3) 3 1 (ints sz) :: .cells g9 25 [.slice a1 sz.length a3, s] :: .cells g8 25 [.slice none 0 0, .slice none 0 0] :: .cells g4 25 [.slice ps sz.length cs, .slice pr rs.length cr] :: (VA r2 ++ H.L)⟩) rs.length rfl rfl
    ((weakNil _ 60 2).trans (weakPull [0, 1, 0] rfl)) ⟨0, .slice none 0 0, [], rfl, by omega, rfl, .inl ⟨rfl, rfl⟩, by simp, rfl⟩ ?_
  rintro m u vs H' ⟨k, s, r2, rfl, hm, hr2, hrv2, hV, rfl⟩
  have hl2 : r2.length = k := by have := congrArg List.length hr2; rw [List.length_map, List.length_map, List.length_take] at this; omega
  obtain ⟨s1, s3, rfl⟩ := hrv2.cnt (by omega) (rvs_length r2)
  conv => whnf
  refine ldS 4 rfl rfl ?_
  conv => whnf
  refine ifC_dec (fun h1 => ?_) (fun h1 => ?_)
  · have hkl : k < rs.length := by omega
    have hmem := List.getElem_mem hkl
    obtain ⟨hp64, hvl, hv64⟩ := hs.x _ hmem
    obtain ⟨gr, or', rfl, hce⟩ := hcr k hkl
    obtain ⟨pv, nv, cv, ev⟩ := (h.v _ hmem).slice
    have hce := fun (L' : List Atom) hL => hce.mono (hle_sub (M := H.M) (L := H.L) (L' := L') hL)
    conv => whnf
    refine awp_draw hT hM 19 (List.range 19) (by kernel_rfl) H.M (.row (.slice a1 sz.length a3) 3 1 (ints sz) :: .cells g9 25 [.slice a1 sz.length a3, .slice s1 r2.length s3] :: .cells g8 25 [.slice none 0 0, .slice none 0 0] :: .cells g4 25 [.slice ps sz.length cs, .slice (some ⟨gr, or', none⟩) rs.length cr] :: (VA r2 ++ H.L)) [.row (.slice s1 r2.length s3) 60 2 (rvs r2)] (Weak.perm (List.perm_append_comm (l₁ := [_]))) ?_
    conv => whnf
    refine ldS 1 rfl rfl ?_
    conv => whnf
    refine ldS 3 rfl rfl ?_
    conv => whnf
    refine ⟨gr, or', rfl, by omega, ?_⟩
    conv => whnf
    refine ⟨_, (hce _ (fun a ha => by simp [ha])) 0 _ rfl, ?_⟩
    conv => whnf
    intro q
    conv => whnf
    refine ldS 3 rfl rfl ?_
    conv => whnf
    refine ⟨gr, or', rfl, by omega, ?_⟩
    conv => whnf
    refine ⟨_, (hce _ (fun a ha => by simp [ha])) 1 (.slice pv nv cv) (by rw [rvc, ev]; rfl), ?_⟩
    conv => whnf
    refine ⟨H.M, (.row (.slice a1 sz.length a3) 3 1 (ints sz) :: .cells g9 25 [.slice a1 sz.length a3, .slice s1 r2.length s3] :: .cells g8 25 [.slice none 0 0, .slice none 0 0] :: .cells g4 25 [.slice ps sz.length cs, .slice (some ⟨gr, or', none⟩) rs.length cr] :: (VA r2 ++ H.L)) ++ [.row (.slice s1 r2.length s3) 60 2 (rvs r2)], [], ints rs[k].r.vs, by rw [← ev]; exact (h.v _ hmem).mono (hle_sub fun a ha => by simp [ha]), ints_one _,
      (Weak.perm List.perm_append_comm).trans ((weakPull [0] rfl).trans (Weak.perm (List.Perm.cons _ (List.perm_append_comm (l₁ := [_]))))), by rw [ints_length]; simp; omega, by rw [ints_length]; simp [maxLen]; omega, ?_⟩
    rw [List.nil_append]
    intro wv hwv
    obtain ⟨w1, w2, w3, rfl⟩ := hwv.slice
    refine ⟨_, [_, _], weakMid, fun _ _ h => h, ?_⟩
    obtain ⟨x, ex⟩ : ∃ x : RV, x = ⟨.slice w1 w2 w3, rs[k].r⟩ := ⟨_, rfl⟩
    have hsucc : rvs (r2 ++ [x]) = rvs r2 ++ rvs [x] := rvs_append _ _
    have hone : ∀ y ∈ rvs [x], y.oneCell' = true := by rw [ex]; simp [rvs, rvc, Value.oneCell']
    conv => whnf
    intro q2
    conv => whnf
    refine ⟨H.M, (.row (.slice a1 sz.length a3) 3 1 (ints sz) :: .cells g9 25 [.slice a1 sz.length a3, .slice s1 r2.length s3] :: .cells g8 25 [.slice none 0 0, .slice none 0 0] :: .cells g4 25 [.slice ps sz.length cs, .slice (some ⟨gr, or', none⟩) rs.length cr] :: (VA r2 ++ H.L)) ++ [.row (.slice (some ⟨q2, 0, none⟩) 1 1) 60 2 (rvs [x]), .row (.slice w1 w2 w3) 3 1 (ints rs[k].r.vs)], rvs r2, rvs [x], readsRow (e := 60) (v := .slice (some ⟨q2, 0, none⟩) 1 1) (List.mem_append_right _ (by rw [ex]; exact List.mem_cons_self)) (rowNew (by rw [rvs_length]; rfl) (by omega)), hone,
      ?_, by simp only [rvs_length, List.length_singleton]; omega, by simp only [rvs_length, List.length_singleton, maxLen]; omega, ?_⟩
    · rw [ex]
      exact (Weak.perm List.perm_append_comm).trans ((weakPull [2] rfl).trans (Weak.perm (List.Perm.cons _ (List.perm_append_comm (l₁ := [_, _])))))
    rw [← hsucc]
    intro v' hv'
    obtain ⟨q1, q3, rfl⟩ := hv'.cnt (by omega) (rvs_length _)
    refine ⟨_, [_, _, _], weakMid, fun _ _ h => h, ?_⟩
    conv => whnf
    refine ⟨⟨H.M, .row (.slice w1 w2 w3) 3 1 (ints rs[k].r.vs) :: .row (.slice q1 (r2 ++ [x]).length q3) 60 2 (rvs (r2 ++ [x])) :: .row (.slice a1 sz.length a3) 3 1 (ints sz) :: .cells g9 25 [.slice a1 sz.length a3, .slice s1 r2.length s3] :: .cells g8 25 [.slice none 0 0, .slice none 0 0] :: .cells g4 25 [.slice ps sz.length cs, .slice (some ⟨gr, or', none⟩) rs.length cr] :: (VA r2 ++ H.L)⟩, (Weak.perm List.perm_append_comm).trans ((weakPull [2, 0] rfl).trans (weakSkip 2 1 rfl)), ?_⟩
    conv => whnf
    refine stC 3 rfl rfl (by first | (refine ⟨rfl, ?_⟩; repeat' (first | exact trivial | refine ⟨rfl, ?_⟩)) | simp [oneCells, Value.oneCell', setN]) ?_
    conv => whnf
    conv => whnf
    repeat (refine ⟨_, wi (by omega), ?_⟩; conv => whnf)
    refine ⟨rfl, rfl, m - 1, _, by omega, weakEnd (A := [_, _, _, _, _]), k + 1, _, r2 ++ [x], rfl, by omega, ?_, hv', fun y hy => ?_, ?_⟩
    · rw [List.map_append, hr2, List.take_succ_eq_append_getElem hkl, List.map_append, ex]; rfl
    · rcases List.mem_append.1 hy with hy | hy
      · exact hV y hy
      · rw [List.mem_singleton.1 hy, ex]; exact hwv
    · rw [VA_append, ex]; rfl
  · have hke : k = rs.length := by omega
    subst hke
    rw [List.take_length] at hr2
    have hx2 : ∀ x ∈ r2, I64 x.r.p ∧ x.r.vs.length ≤ n ∧ ∀ y ∈ x.r.vs, I64 y := fun x hx => by
      have : x.r ∈ rs.map (·.r) := by rw [← hr2]; exact List.mem_map.2 ⟨x, hx, rfl⟩
      obtain ⟨y, hy, e⟩ := List.mem_map.1 this
      rw [← e]
      exact hs.x y hy
    clear hcr
    have hb7 := around_bd how 7 (by omega)
    have hrd2 : Reads ⟨H.M, [.row (.slice s1 r2.length s3) 60 2 (rvs r2)]⟩ (.slice s1 r2.length s3) 2 (rvs r2) := readsRow (e := 60) List.mem_cons_self hrv2
    conv => whnf
    refine c_Around how 7 hh (by omega) _ _ ?_
    generalize hw7 : around how 7 = w7 at *
    conv => whnf
    refine ifC_dec (fun c0 => ?_) (fun c0 => ?_)
    · have hb4 := around_bd by' 4 (by omega)
      conv => whnf
      intro q
      conv => whnf
      refine c_Around by' 4 hy (by omega) _ _ ?_
      obtain ⟨_, _, e, hc⟩ := intsAt (H := ⟨H.M, [.row (.slice (some ⟨q, 0, none⟩) 4 4) 3 1 (ints [0, 1, 12, 13])]⟩) (l := [0, 1, 12, 13]) (readsNew (L := []) rfl rfl)
      cases e
      obtain ⟨g', o', e', hcell⟩ := hc (around by' 4) (by omega) (by simp; omega)
      cases e'
      have hz : I64 (geti [0, 1, 12, 13] (around by' 4)) := by
        have := geti_mem (l := [0, 1, 12, 13]) (i := around by' 4) (by omega) (by simp; omega)
        simp at this
        omega
      generalize geti [0, 1, 12, 13] (around by' 4) = z at *
      conv => whnf
      refine ⟨q, 0, rfl, by omega, ?_⟩
      conv => whnf
      refine ⟨_, HLe.cell (hle_one List.mem_cons_self) hcell, ?_⟩
      conv => whnf
      refine ldS 3 rfl rfl ?_
      conv => whnf
      refine ifC_dec (fun hz0 => ?_) (fun hz0 => ?_)
      · have hba := around_bd at' sz.length (by omega)
        conv => whnf
        refine awp_drawQ hT hM 8 (by kernel_rfl) ?_
        conv => whnf
        refine ldS 3 rfl rfl ?_
        conv => whnf
        refine ldS 3 rfl rfl ?_
        conv => whnf
        refine c_Around at' sz.length hat (by omega) _ _ ⟨Weak.refl _, ?_⟩
        obtain ⟨j, hj⟩ : ∃ j : Nat, around at' sz.length = j := ⟨(around at' sz.length).toNat, by omega⟩
        rw [hj] at hba ⊢
        obtain ⟨_, _, e, hcs⟩ := intsAt (H := ⟨H.M, [.row (.slice a1 sz.length a3) 3 1 (ints sz)]⟩) (readsRow (e := 3) List.mem_cons_self hsv2)
        cases e
        obtain ⟨gs, os, rfl, _⟩ := hcs j (by omega) (by omega)
        conv => whnf
        refine ⟨gs, os, rfl, by omega, ?_⟩
        conv => whnf
        refine stW 2 rfl j (by simp) (by rw [ints_length]; simp; omega) ⟨rfl, trivial⟩ (ints_set sz j z) ?_
        conv => whnf
        refine ldA 3 rfl rfl ?_
        conv => whnf
        refine stC 4 rfl rfl (by first | (refine ⟨rfl, ?_⟩; repeat' (first | exact trivial | refine ⟨rfl, ?_⟩)) | simp [oneCells, Value.oneCell', setN]) ?_
        conv => whnf
        refine ⟨rfl, ?_⟩
        conv => whnf
        refine ldA 4 rfl rfl ?_
        conv => whnf
        exact fin ((weakDel 0 rfl).trans (weakSkip 2 3 rfl)) (hR _ _ (sz.set j z) r2 (_ :: _ :: VA r2) ⟨readsRow (e := 3) (List.mem_cons_of_mem _ List.mem_cons_self) (hsv2.len (by rw [ints_length, ints_length, List.length_set])), readsRow (e := 60) List.mem_cons_self hrv2, VA_reads hV fun a ha => List.mem_cons_of_mem _ (List.mem_cons_of_mem _ ha)⟩
          ⟨by rw [List.length_set]; omega, setI hs.si hz, by omega, fun x hx => by have := hx2 x hx; exact ⟨this.1, by omega, this.2.2⟩⟩)
      · conv => whnf
        refine ldA 3 rfl rfl ?_
        conv => whnf
        refine stC 4 rfl rfl (by first | (refine ⟨rfl, ?_⟩; repeat' (first | exact trivial | refine ⟨rfl, ?_⟩)) | simp [oneCells, Value.oneCell', setN]) ?_
        conv => whnf
        refine ⟨rfl, ?_⟩
        conv => whnf
        refine ldA 4 rfl rfl ?_
        conv => whnf
        exact fin ((weakDel 0 rfl).trans (weakSkip 2 3 rfl)) (hR _ _ sz r2 (_ :: _ :: VA r2) ⟨readsRow (e := 3) (List.mem_cons_of_mem _ List.mem_cons_self) hsv2, readsRow (e := 60) List.mem_cons_self hrv2, VA_reads hV fun a ha => List.mem_cons_of_mem _ (List.mem_cons_of_mem _ ha)⟩
          ⟨by omega, hs.si, by omega, fun x hx => by have := hx2 x hx; exact ⟨this.1, by omega, this.2.2⟩⟩)
    · conv => whnf
      refine ldS 2 rfl rfl ?_
      conv => whnf
      refine ifC_dec (fun cl => ?_) (fun cl => ?_)
      · have hb4 := around_bd by' 4 (by omega)
        conv => whnf
        intro q
        conv => whnf
        refine c_Around by' 4 hy (by omega) _ _ ?_
        obtain ⟨_, _, e, hc⟩ := intsAt (H := ⟨H.M, [.row (.slice (some ⟨q, 0, none⟩) 4 4) 3 1 (ints [0, 1, 12, 13])]⟩) (l := [0, 1, 12, 13]) (readsNew (L := []) rfl rfl)
        cases e
        obtain ⟨g', o', e', hcell⟩ := hc (around by' 4) (by omega) (by simp; omega)
        cases e'
        have hz : I64 (geti [0, 1, 12, 13] (around by' 4)) := by
          have := geti_mem (l := [0, 1, 12, 13]) (i := around by' 4) (by omega) (by simp; omega)
          simp at this
          omega
        generalize geti [0, 1, 12, 13] (around by' 4) = z at *
        conv => whnf
        refine ⟨q, 0, rfl, by omega, ?_⟩
        conv => whnf
        refine ⟨_, HLe.cell (hle_one List.mem_cons_self) hcell, ?_⟩
        conv => whnf
        refine ldS 3 rfl rfl ?_
        conv => whnf
        refine ifC_dec (fun hz0 => ?_) (fun hz0 => ?_)
        · have hba := around_bd at' sz.length (by omega)
          conv => whnf
          refine awp_drawQ hT hM 8 (by kernel_rfl) ?_
          conv => whnf
          refine ldS 3 rfl rfl ?_
          conv => whnf
          refine ldS 3 rfl rfl ?_
          conv => whnf
          refine c_Around at' sz.length hat (by omega) _ _ ⟨Weak.refl _, ?_⟩
          obtain ⟨j, hj⟩ : ∃ j : Nat, around at' sz.length = j := ⟨(around at' sz.length).toNat, by omega⟩
          rw [hj] at hba ⊢
          obtain ⟨_, _, e, hcs⟩ := intsAt (H := ⟨H.M, [.row (.slice a1 sz.length a3) 3 1 (ints sz)]⟩) (readsRow (e := 3) List.mem_cons_self hsv2)
          cases e
          obtain ⟨gs, os, rfl, _⟩ := hcs j (by omega) (by omega)
          conv => whnf
          refine ⟨gs, os, rfl, by omega, ?_⟩
          conv => whnf
          refine stW 2 rfl j (by simp) (by rw [ints_length]; simp; omega) ⟨rfl, trivial⟩ (ints_set sz j z) ?_
          conv => whnf
          refine ldA 3 rfl rfl ?_
          conv => whnf
          refine stC 4 rfl rfl (by first | (refine ⟨rfl, ?_⟩; repeat' (first | exact trivial | refine ⟨rfl, ?_⟩)) | simp [oneCells, Value.oneCell', setN]) ?_
          conv => whnf
          refine ⟨rfl, ?_⟩
          conv => whnf
          refine ldA 4 rfl rfl ?_
          conv => whnf
          exact fin ((weakDel 0 rfl).trans (weakSkip 2 3 rfl)) (hR _ _ (sz.set j z) r2 (_ :: _ :: VA r2) ⟨readsRow (e := 3) (List.mem_cons_of_mem _ List.mem_cons_self) (hsv2.len (by rw [ints_length, ints_length, List.length_set])), readsRow (e := 60) List.mem_cons_self hrv2, VA_reads hV fun a ha => List.mem_cons_of_mem _ (List.mem_cons_of_mem _ ha)⟩
            ⟨by rw [List.length_set]; omega, setI hs.si hz, by omega, fun x hx => by have := hx2 x hx; exact ⟨this.1, by omega, this.2.2⟩⟩)
        · conv => whnf
          refine ldA 3 rfl rfl ?_
          conv => whnf
          refine stC 4 rfl rfl (by first | (refine ⟨rfl, ?_⟩; repeat' (first | exact trivial | refine ⟨rfl, ?_⟩)) | simp [oneCells, Value.oneCell', setN]) ?_
          conv => whnf
          refine ⟨rfl, ?_⟩
          conv => whnf
          refine ldA 4 rfl rfl ?_
          conv => whnf
          exact fin ((weakDel 0 rfl).trans (weakSkip 2 3 rfl)) (hR _ _ sz r2 (_ :: _ :: VA r2) ⟨readsRow (e := 3) (List.mem_cons_of_mem _ List.mem_cons_self) hsv2, readsRow (e := 60) List.mem_cons_self hrv2, VA_reads hV fun a ha => List.mem_cons_of_mem _ (List.mem_cons_of_mem _ ha)⟩
            ⟨by omega, hs.si, by omega, fun x hx => by have := hx2 x hx; exact ⟨this.1, by omega, this.2.2⟩⟩)
      · have hbi := around_bd at' r2.length (by omega)
        obtain ⟨i, hi⟩ : ∃ i : Nat, around at' r2.length = i := ⟨(around at' r2.length).toNat, by omega⟩
        have hil : i < r2.length := by omega
        have hmem := List.getElem_mem hil
        obtain ⟨_, _, e, hcr⟩ := rvAt hrd2
        cases e
        obtain ⟨gr, or', rfl, hce0⟩ := hcr i hil
        have hce := fun (L' : List Atom) hL => hce0.mono (hle_one (M := H.M) (L := L') hL)
        obtain ⟨pv, nvz, cv, ev⟩ := (hV _ hmem).slice
        obtain ⟨pv', cv', ev'⟩ : ∃ p c, r2[i].v = .slice p r2[i].r.vs.length c := (hV _ hmem).cnt (by omega) (by rw [ints_length, Nat.mul_one])
        have hva : (VA r2)[i]? = some (.row r2[i].v 3 1 (ints r2[i].r.vs)) := by simp [VA, hil]
        have hnv := (hx2 _ hmem).2.1
        conv => whnf
        refine ldS 2 rfl rfl ?_
        conv => whnf
        refine c_Around at' r2.length hat (by omega) _ _ ?_
        rw [hi]
        conv => whnf
        have hq64 : I64 (at'.tdiv 64) := by
          rcases Int.le_total 0 at' with h0 | h0
          · rw [Int.tdiv_eq_ediv_of_nonneg h0]; omega
          · have e : at'.tdiv 64 = -((-at').tdiv 64) := by rw [Int.neg_tdiv, Int.neg_neg]
            rw [e, Int.tdiv_eq_ediv_of_nonneg (by omega)]; omega
        refine ⟨by omega, _, rfl, ?_⟩
        rw [← wi hq64]
        generalize at'.tdiv 64 = aq at *
        conv => whnf
        refine ldS 2 rfl rfl ?_
        conv => whnf
        refine ⟨gr, or', rfl, by omega, ?_⟩
        conv => whnf
        refine ⟨_, (hce _ List.mem_cons_self) 1 (.slice pv' r2[i].r.vs.length cv') (by rw [rvc, ev']; rfl), ?_⟩
        conv => whnf
        have hmx : I64 (if (1 : Int) > (r2[i].r.vs.length : Int) then (1 : Int) else (r2[i].r.vs.length : Int)) := by split <;> omega
        generalize (if (1 : Int) > (r2[i].r.vs.length : Int) then (1 : Int) else (r2[i].r.vs.length : Int)) = mx at *
        have hbk := around_0 aq mx
        refine c_Around aq mx hq64 hmx _ _ ?_
        obtain ⟨kk, hkk⟩ : ∃ kk : Nat, around aq mx = kk := ⟨(around aq mx).toNat, by omega⟩
        rw [hkk]
        clear hkk hbk hmx hq64
        conv => whnf
        refine c_Around how 7 hh (by omega) _ _ ?_
        rw [hw7]
        conv => whnf
        refine ifC_dec (fun k1 => ?_) (fun k1 => ?_)
        · -- a person
          have hb5 := around_bd by' 5 (by omega)
          obtain ⟨g0, o0, e0, hc0⟩ := rvAt hrd2
          cases e0
          obtain ⟨_, _, e1, hc00⟩ := hc0 0 (by omega)
          cases e1
          conv => whnf
          refine awp_drawL (lk := [117]) hT hM 15 [9, 10, 0, 1, 2, 3, 4, 5, 6, 7, 8, 11, 12, 13, 14] (by kernel_rfl) H.M _ [] (by rw [List.append_nil]; exact Weak.refl _) ?_
          conv => whnf
          refine c_Around by' 5 hy (by omega) _ _ ?_
          refine ⟨_, _, Weak.refl _, fun _ _ h => h, ?_⟩
          conv => whnf
          refine ldS 2 rfl rfl ?_
          conv => whnf
          refine ldS 2 rfl rfl ?_
          conv => whnf
          refine ⟨gr, or', rfl, by omega, ?_⟩
          conv => whnf
          refine ⟨_, (hc00.mono (hle_one (by simp))) 0 _ rfl, ?_⟩
          conv => whnf
          intro q
          conv => whnf
          obtain ⟨_, _, e, hc⟩ := intsAt (H := ⟨H.M, [.row (.slice (some ⟨q, 0, none⟩) 5 5) 3 1 (ints [-1, 0, 65535, 65536, r2[0].r.p])]⟩) (l := [-1, 0, 65535, 65536, r2[0].r.p]) (readsNew (L := []) rfl rfl)
          cases e
          obtain ⟨g', o', e', hcell⟩ := hc (around by' 5) (by omega) (by simp; omega)
          cases e'
          have hz : I64 (geti [-1, 0, 65535, 65536, r2[0].r.p] (around by' 5)) := by
            have := geti_mem (l := [-1, 0, 65535, 65536, r2[0].r.p]) (i := around by' 5) (by omega) (by simp; omega)
            have h0 := (hx2 r2[0] (List.getElem_mem _)).1
            simp at this
            omega
          generalize geti [-1, 0, 65535, 65536, r2[0].r.p] (around by' 5) = z at *
          refine ⟨q, 0, rfl, by omega, ?_⟩
          conv => whnf
          refine ⟨_, HLe.cell (hle_one (by simp [ints])) hcell, ?_⟩
          refine ⟨_, _, Weak.refl _, fun _ _ h => h, ?_⟩
          conv => whnf
          refine ⟨gr, or', rfl, by omega, ?_⟩
          conv => whnf
          refine ⟨_, (Weak.perm List.perm_append_comm).trans (weakDel 0 rfl), ?_⟩
          conv => whnf
          refine stW 0 rfl (i * 2) (by simp) (by rw [rvs_length]; simp; omega) ⟨rfl, trivial⟩ (rvs_setp hil z) ?_
          have hx' : ∀ x ∈ (r2.set i ⟨r2[i].v, ⟨z, r2[i].r.vs⟩⟩), Reads ⟨H.M, (VA r2)⟩ x.v 1 (ints x.r.vs) := (fun x hx => by
            rcases List.mem_or_eq_of_mem_set hx with h | h
            · exact VA_reads hV (fun a ha => ha) x h
            · rw [h]; exact VA_reads hV (fun a ha => ha) r2[i] hmem)
          have hs' : smT (n + 70) sz (r2.set i ⟨r2[i].v, ⟨z, r2[i].r.vs⟩⟩) := ⟨by omega, hs.si, by rw [List.length_set]; omega, fun x hx => by
            rcases List.mem_or_eq_of_mem_set hx with h | h
            · have := hx2 x h; exact ⟨this.1, by omega, this.2.2⟩
            · have := hx2 _ hmem; rw [h]; exact ⟨hz, by show r2[i].r.vs.length ≤ n + 70; omega, this.2.2⟩⟩
          conv => whnf
          refine ldA 2 rfl rfl ?_
          conv => whnf
          refine stC 3 rfl rfl (by first | (refine ⟨rfl, ?_⟩; repeat' (first | exact trivial | refine ⟨rfl, ?_⟩)) | simp [oneCells, Value.oneCell', setN]) ?_
          conv => whnf
          refine ⟨rfl, ?_⟩
          conv => whnf
          refine ldA 3 rfl rfl ?_
          conv => whnf
          exact fin (weakSkip 2 3 rfl) (hR _ _ sz (r2.set i ⟨r2[i].v, ⟨z, r2[i].r.vs⟩⟩) (_ :: _ :: (VA r2)) ⟨readsRow (e := 3) (List.mem_cons_of_mem _ List.mem_cons_self) hsv2, readsRow (e := 60) List.mem_cons_self (hrv2.len (by rw [rvs_length, rvs_length, List.length_set])), fun x hx => ((hx') x hx).mono (hle_sub fun a ha => List.mem_cons_of_mem _ (List.mem_cons_of_mem _ ha))⟩ hs')
        · conv => whnf
          refine ifC_dec (fun k2 => ?_) (fun k2 => ?_)
          · -- a value
            conv => whnf
            refine ldS 2 rfl rfl ?_
            conv => whnf
            refine ⟨gr, or', rfl, by omega, ?_⟩
            conv => whnf
            refine ⟨_, (hce _ List.mem_cons_self) 1 (.slice pv' r2[i].r.vs.length cv') (by rw [rvc, ev']; rfl), ?_⟩
            conv => whnf
            refine ifC_dec (fun k3 => ?_) (fun k3 => ?_)
            · have hb77 := around_bd by' 7 (by omega)
              have hrv := hV _ hmem
              rw [ev'] at hrv
              obtain ⟨gv, ov, epv⟩ : ∃ g o, pv' = some ⟨g, o, none⟩ := by
                rcases hrv with ⟨h1, h2⟩ | ⟨g, o, n', c', h1, _⟩
                · have := congrArg List.length h2
                  rw [ints_length] at this
                  simp only [List.length_nil] at this
                  omega
                · cases h1; exact ⟨g, o, rfl⟩
              subst epv
              conv => whnf
              refine awp_drawQ hT hM 10 (by kernel_rfl) ?_
              conv => whnf
              refine ldS 2 rfl rfl ?_
              conv => whnf
              refine ⟨gr, or', rfl, by omega, ?_⟩
              conv => whnf
              refine ⟨_, (hce _ List.mem_cons_self) 1 (.slice (some ⟨gv, ov, none⟩) r2[i].r.vs.length cv') (by rw [rvc, ev']; rfl), ?_⟩
              conv => whnf
              refine c_Around by' 7 hy (by omega) _ _ ⟨Weak.refl _, ?_⟩
              conv => whnf
              repeat (refine ⟨_, wi (by omega), ?_⟩; conv => whnf)
              refine ⟨gv, ov, rfl, by omega, ?_⟩
              conv => whnf
              have hlt : i < (VA r2).length := by simp [VA]; exact hil
              have hz : I64 (around by' 7 - 1) := by omega
              generalize around by' 7 - 1 = z at *
              refine stW (5 + i) (n := r2[i].r.vs.length) (cap := cv') (e := 3) (sz := 1) (xs := ints r2[i].r.vs) (by
                show ([_, _, _, _, _] ++ (VA r2 ++ H.L))[5 + i]? = _
                rw [List.getElem?_append_right (by simp), List.getElem?_append_left (by simp; exact hlt)]
                simp only [List.length_cons, List.length_nil, Nat.add_sub_cancel_left]
                rw [hva, ev']) kk (by simp) (by rw [ints_length]; simp; omega) ⟨rfl, trivial⟩ (ints_set _ kk z) ?_
              have hVA : VA (r2.set i ⟨r2[i].v, ⟨r2[i].r.p, r2[i].r.vs.set kk z⟩⟩) = (VA r2).set i (.row (.slice (some ⟨gv, ov, none⟩) r2[i].r.vs.length cv') 3 1 (ints (r2[i].r.vs.set kk z))) := by
                unfold VA
                rw [List.map_set, ev']
              have hset : ∀ (a b c d e y : Atom), (a :: b :: c :: d :: e :: (VA r2 ++ H.L)).set (5 + i) y = a :: b :: c :: d :: e :: ((VA r2).set i y ++ H.L) := fun a b c d e y => by
                rw [show 5 + i = i + 1 + 1 + 1 + 1 + 1 by omega]
                simp only [List.set_cons_succ]
                rw [List.set_append_left _ _ hlt]
              have hsame := rvs_same hil (⟨r2[i].v, ⟨r2[i].r.p, r2[i].r.vs.set kk z⟩⟩ : RV) rfl rfl
              have hrv3 : RowVal (.slice (some ⟨gr, or', none⟩) r2.length s3) 2 (rvs (r2.set i ⟨r2[i].v, ⟨r2[i].r.p, r2[i].r.vs.set kk z⟩⟩)) := by rw [hsame]; exact hrv2
              rw [hset, ← hVA, ← hsame]
              have hx' : ∀ x ∈ (r2.set i ⟨r2[i].v, ⟨r2[i].r.p, r2[i].r.vs.set kk z⟩⟩), Reads ⟨H.M, (VA (r2.set i ⟨r2[i].v, ⟨r2[i].r.p, r2[i].r.vs.set kk z⟩⟩))⟩ x.v 1 (ints x.r.vs) := (VA_reads (fun x hx => by
                rcases List.mem_or_eq_of_mem_set hx with h | h
                · exact hV x h
                · rw [h]; exact (hV _ hmem).len (by rw [ints_length, ints_length, List.length_set])) fun a ha => ha)
              have hs' : smT (n + 70) sz (r2.set i ⟨r2[i].v, ⟨r2[i].r.p, r2[i].r.vs.set kk z⟩⟩) := ⟨by omega, hs.si, by rw [List.length_set]; omega, fun x hx => by
                rcases List.mem_or_eq_of_mem_set hx with h | h
                · have := hx2 x h; exact ⟨this.1, by omega, this.2.2⟩
                · have := hx2 _ hmem; rw [h]; exact ⟨this.1, by show (r2[i].r.vs.set kk z).length ≤ n + 70; rw [List.length_set]; omega, setI this.2.2 hz⟩⟩
              conv => whnf
              refine ldA 2 rfl rfl ?_
              conv => whnf
              refine stC 3 rfl rfl (by first | (refine ⟨rfl, ?_⟩; repeat' (first | exact trivial | refine ⟨rfl, ?_⟩)) | simp [oneCells, Value.oneCell', setN]) ?_
              conv => whnf
              refine ⟨rfl, ?_⟩
              conv => whnf
              refine ldA 3 rfl rfl ?_
              conv => whnf
              exact fin (weakSkip 2 3 rfl) (hR _ _ sz (r2.set i ⟨r2[i].v, ⟨r2[i].r.p, r2[i].r.vs.set kk z⟩⟩) (_ :: _ :: (VA (r2.set i ⟨r2[i].v, ⟨r2[i].r.p, r2[i].r.vs.set kk z⟩⟩))) ⟨readsRow (e := 3) (List.mem_cons_of_mem _ List.mem_cons_self) hsv2, readsRow (e := 60) List.mem_cons_self hrv3, fun x hx => ((hx') x hx).mono (hle_sub fun a ha => List.mem_cons_of_mem _ (List.mem_cons_of_mem _ ha))⟩ hs')
            · conv => whnf
              refine ldA 2 rfl rfl ?_
              conv => whnf
              refine stC 3 rfl rfl (by first | (refine ⟨rfl, ?_⟩; repeat' (first | exact trivial | refine ⟨rfl, ?_⟩)) | simp [oneCells, Value.oneCell', setN]) ?_
              conv => whnf
              refine ⟨rfl, ?_⟩
              conv => whnf
              refine ldA 3 rfl rfl ?_
              conv => whnf
              exact fin (weakSkip 2 3 rfl) (hR _ _ sz r2 (_ :: _ :: (VA r2)) ⟨readsRow (e := 3) (List.mem_cons_of_mem _ List.mem_cons_self) hsv2, readsRow (e := 60) List.mem_cons_self hrv2, fun x hx => (((VA_reads hV fun a ha => ha)) x hx).mono (hle_sub fun a ha => List.mem_cons_of_mem _ (List.mem_cons_of_mem _ ha))⟩ (hs.mk2 hx2 (by omega)))
          · conv => whnf
            refine ifC_dec (fun k3 => ?_) (fun k3 => ?_)
            · -- a value more
              have hrv := hV _ hmem
              rw [ev'] at hrv hva
              conv => whnf
              refine awp_drawL (lk := [152]) hT hM 14 (List.range 14) (by kernel_rfl) H.M (.row (.slice a1 sz.length a3) 3 1 (ints sz) :: .cells g9 25 [.slice a1 sz.length a3, .slice (some ⟨gr, or', none⟩) r2.length s3] :: .cells g8 25 [.slice none 0 0, .slice none 0 0] :: .cells g4 25 [.slice ps sz.length cs, .slice pr rs.length cr] :: ((VA r2).eraseIdx i ++ H.L)) [.row (.slice (some ⟨gr, or', none⟩) r2.length s3) 60 2 (rvs r2), .row (.slice pv' r2[i].r.vs.length cv') 3 1 (ints r2[i].r.vs)]
                (Weak.perm ((List.Perm.cons _ (List.Perm.append_left [_, _, _, _] (List.Perm.append_right _ (erase_perm hva)))).trans ((List.Perm.cons _ (List.perm_middle (l₁ := [_, _, _, _]))).trans (List.perm_append_comm (l₁ := [_, _]))))) ?_
              conv => whnf
              refine ldS 1 rfl rfl ?_
              conv => whnf
              refine ldS 1 rfl rfl ?_
              conv => whnf
              refine ⟨gr, or', rfl, by omega, ?_⟩
              conv => whnf
              refine ⟨_, (hce _ (by simp)) 1 (.slice pv' r2[i].r.vs.length cv') (by rw [rvc, ev']; rfl), ?_⟩
              refine ⟨_, _, Weak.refl _, fun _ _ h => h, ?_⟩
              conv => whnf
              intro q
              conv => whnf
              refine ⟨H.M, (.row (.slice a1 sz.length a3) 3 1 (ints sz) :: .cells g9 25 [.slice a1 sz.length a3, .slice (some ⟨gr, or', none⟩) r2.length s3] :: .cells g8 25 [.slice none 0 0, .slice none 0 0] :: .cells g4 25 [.slice ps sz.length cs, .slice pr rs.length cr] :: ((VA r2).eraseIdx i ++ H.L)) ++ [.row (.slice (some ⟨q, 0, none⟩) 1 1) 3 1 (ints [0]), .row (.slice (some ⟨gr, or', none⟩) r2.length s3) 60 2 (rvs r2)], ints r2[i].r.vs, ints [0], readsRow (e := 3) (v := .slice (some ⟨q, 0, none⟩) 1 1) (List.mem_append_right _ List.mem_cons_self) (rowNew rfl (by omega)), ints_one _,
                (Weak.perm List.perm_append_comm).trans ((weakPull [2] rfl).trans (Weak.perm (List.Perm.cons _ (List.perm_append_comm (l₁ := [_, _]))))), by rw [ints_length, ints_length]; simp; omega, by rw [ints_length, ints_length]; simp [maxLen]; omega, ?_⟩
              rw [← ints_append]
              intro wv hwv
              obtain ⟨w1, w2, w3, rfl⟩ := hwv.slice
              refine ⟨_, [_, _, _], weakMid, fun _ _ h => h, ?_⟩
              conv => whnf
              refine ⟨gr, or', rfl, by omega, ?_⟩
              conv => whnf
              refine stWR 2 rfl (i * 2 + 1) (by simp; omega) (by rw [rvs_length]; simp; omega) ⟨rfl, trivial⟩ (rvs_setv hil (.slice w1 w2 w3) ⟨r2[i].r.p, r2[i].r.vs ++ [0]⟩ rfl) ?_
              refine ⟨_, _, Weak.refl _, fun _ _ h => h, ?_⟩
              conv => whnf
              refine ⟨⟨H.M, .row (.slice (some ⟨gr, or', none⟩) r2.length s3) 60 2 (rvs (r2.set i ⟨.slice w1 w2 w3, ⟨r2[i].r.p, r2[i].r.vs ++ [0]⟩⟩)) :: .row (.slice a1 sz.length a3) 3 1 (ints sz) :: .cells g9 25 [.slice a1 sz.length a3, .slice (some ⟨gr, or', none⟩) r2.length s3] :: .cells g8 25 [.slice none 0 0, .slice none 0 0] :: .cells g4 25 [.slice ps sz.length cs, .slice pr rs.length cr] :: ((.row (.slice w1 w2 w3) 3 1 (ints (r2[i].r.vs ++ [0])) :: (VA r2).eraseIdx i) ++ H.L)⟩,
                (Weak.perm List.perm_append_comm).trans ((weakDel 1 rfl).trans (weakPull [1, 1, 1, 1, 1, 0] rfl)), ?_⟩
              have hx' : ∀ x ∈ (r2.set i ⟨.slice w1 w2 w3, ⟨r2[i].r.p, r2[i].r.vs ++ [0]⟩⟩), Reads ⟨H.M, (.row (.slice w1 w2 w3) 3 1 (ints (r2[i].r.vs ++ [0])) :: (VA r2).eraseIdx i)⟩ x.v 1 (ints x.r.vs) := (fun x hx => by
                rcases mem_set_casesG hx with h | ⟨j, hj, h⟩
                · rw [h]; exact readsRow (e := 3) List.mem_cons_self hwv
                · refine readsRow (e := 3) (List.mem_cons_of_mem _ ?_) (hV x (List.mem_of_getElem? h))
                  refine List.mem_eraseIdx_iff_getElem?.2 ⟨j, hj, ?_⟩
                  simp [VA, h])
              have hs' : smT (n + 70) sz (r2.set i ⟨.slice w1 w2 w3, ⟨r2[i].r.p, r2[i].r.vs ++ [0]⟩⟩) := ⟨by omega, hs.si, by rw [List.length_set]; omega, fun x hx => by
                rcases List.mem_or_eq_of_mem_set hx with h | h
                · have := hx2 x h; exact ⟨this.1, by omega, this.2.2⟩
                · have := hx2 _ hmem; rw [h]; exact ⟨this.1, by show (r2[i].r.vs ++ [0]).length ≤ n + 70; simp; omega, fun y hy => (List.mem_append.1 hy).elim (this.2.2 y) fun hy => by rw [List.mem_singleton.1 hy]; omega⟩⟩
              conv => whnf
              refine ldA 2 rfl rfl ?_
              conv => whnf
              refine stC 3 rfl rfl (by first | (refine ⟨rfl, ?_⟩; repeat' (first | exact trivial | refine ⟨rfl, ?_⟩)) | simp [oneCells, Value.oneCell', setN]) ?_
              conv => whnf
              refine ⟨rfl, ?_⟩
              conv => whnf
              refine ldA 3 rfl rfl ?_
              conv => whnf
              exact fin (weakSkip 2 3 rfl) (hR _ _ sz (r2.set i ⟨.slice w1 w2 w3, ⟨r2[i].r.p, r2[i].r.vs ++ [0]⟩⟩) (_ :: _ :: (.row (.slice w1 w2 w3) 3 1 (ints (r2[i].r.vs ++ [0])) :: (VA r2).eraseIdx i)) ⟨readsRow (e := 3) (List.mem_cons_of_mem _ List.mem_cons_self) hsv2, readsRow (e := 60) List.mem_cons_self (hrv2.len (by rw [rvs_length, rvs_length, List.length_set])), fun x hx => ((hx') x hx).mono (hle_sub fun a ha => List.mem_cons_of_mem _ (List.mem_cons_of_mem _ ha))⟩ hs')
            · conv => whnf
              refine ifC_dec (fun k4 => ?_) (fun k4 => ?_)
              · -- many rows
                obtain ⟨c3, hc3⟩ : ∃ c3 : Nat, around by' 3 = c3 := ⟨(around by' 3).toNat, by have := around_bd by' 3 (by omega); omega⟩
                have hc3b := around_bd by' 3 (by omega)
                rw [hc3] at hc3b
                conv => whnf
                refine awp_loopL hT 197 [3, 8, 9, 12, 14] (fun m vs H' => ∃ (s : Value) (ex : List RV), vs = [.int .i64 by', ptr g8, ptr g9, .int .i64 i, .int .i64 ex.length] ∧ m = 66 - (r2.length + ex.length) ∧ (ex = [] ∨ r2.length + ex.length ≤ 66) ∧ (∀ x ∈ ex, x.v = r2[i].v ∧ x.r.vs = r2[i].r.vs ∧ I64 x.r.p) ∧ RowVal s 2 (rvs (r2 ++ ex)) ∧
                  H' = ⟨H.M, .row s 60 2 (rvs (r2 ++ ex)) :: .row (.slice a1 sz.length a3) 3 1 (ints sz) :: .cells g9 25 [.slice a1 sz.length a3, s] :: .cells g8 25 [.slice none 0 0, .slice none 0 0] :: .cells g4 25 [.slice ps sz.length cs, .slice pr rs.length cr] :: (VA r2 ++ H.L)⟩) (66 - r2.length) rfl rfl (Weak.refl _)
                  ⟨_, [], rfl, rfl, .inl rfl, by simp, by rw [List.append_nil]; exact hrv2, by rw [List.append_nil]⟩ ?_
                rintro m u vs H' ⟨s, ex, rfl, hm, hexl, hex, hrs, rfl⟩
                obtain ⟨z1, z3, rfl⟩ := hrs.cnt (by omega) (rvs_length _)
                have hle : ex.length ≤ 66 := by
                  rcases hexl with h | h
                  · rw [h]; simp
                  · omega
                conv => whnf
                refine awp_drawQ hT hM 7 (by kernel_rfl) ?_
                conv => whnf
                refine ldS 2 rfl rfl ?_
                conv => whnf
                refine c_Around by' 3 hy (by omega) _ _ ⟨Weak.refl _, ?_⟩
                rw [hc3]
                conv => whnf
                repeat (refine ⟨_, wi (by omega), ?_⟩; conv => whnf)
                refine ifC_dec (fun k6 => ?_) (fun k6 => ?_)
                · rw [List.length_append] at k6
                  have hil' : i < (r2 ++ ex).length := by rw [List.length_append]; omega
                  have hgi : (r2 ++ ex)[i] = r2[i] := List.getElem_append_left hil
                  have hrd3 : Reads ⟨H.M, [.row (.slice z1 (r2 ++ ex).length z3) 60 2 (rvs (r2 ++ ex))]⟩ (.slice z1 (r2 ++ ex).length z3) 2 (rvs (r2 ++ ex)) := readsRow (e := 60) List.mem_cons_self hrs
                  obtain ⟨_, _, e, hcr3⟩ := rvAt hrd3
                  cases e
                  obtain ⟨gz, oz, rfl, hce3⟩ := hcr3 i hil'
                  rw [hgi] at hce3
                  obtain ⟨x, exx⟩ : ∃ x : RV, x = ⟨r2[i].v, ⟨1000 + (ex.length : Int), r2[i].r.vs⟩⟩ := ⟨_, rfl⟩
                  have hone : ∀ y ∈ rvs [x], y.oneCell' = true := by rw [exx, ev']; simp [rvs, rvc, Value.oneCell']
                  conv => whnf
                  refine awp_drawL (lk := [177]) hT hM 13 (List.range 13) (by kernel_rfl) H.M (.row (.slice a1 sz.length a3) 3 1 (ints sz) :: .cells g9 25 [.slice a1 sz.length a3, .slice (some ⟨gz, oz, none⟩) (r2 ++ ex).length z3] :: .cells g8 25 [.slice none 0 0, .slice none 0 0] :: .cells g4 25 [.slice ps sz.length cs, .slice pr rs.length cr] :: (VA r2 ++ H.L)) [.row (.slice (some ⟨gz, oz, none⟩) (r2 ++ ex).length z3) 60 2 (rvs (r2 ++ ex))] (Weak.perm (List.perm_append_comm (l₁ := [_]))) ?_
                  conv => whnf
                  refine ldS 1 rfl rfl ?_
                  conv => whnf
                  conv => whnf
                  repeat (refine ⟨_, wi (by omega), ?_⟩; conv => whnf)
                  refine ldS 1 rfl rfl ?_
                  conv => whnf
                  refine ⟨gz, oz, rfl, by omega, ?_⟩
                  conv => whnf
                  refine ⟨_, (hce3.mono (hle_one (by simp))) 1 (.slice pv' r2[i].r.vs.length cv') (by rw [rvc, ev']; rfl), ?_⟩
                  refine ⟨_, _, Weak.refl _, fun _ _ h => h, ?_⟩
                  conv => whnf
                  intro q2
                  conv => whnf
                  refine ⟨H.M, (.row (.slice a1 sz.length a3) 3 1 (ints sz) :: .cells g9 25 [.slice a1 sz.length a3, .slice (some ⟨gz, oz, none⟩) (r2 ++ ex).length z3] :: .cells g8 25 [.slice none 0 0, .slice none 0 0] :: .cells g4 25 [.slice ps sz.length cs, .slice pr rs.length cr] :: (VA r2 ++ H.L)) ++ [.row (.slice (some ⟨q2, 0, none⟩) 1 1) 60 2 (rvs [x])], rvs (r2 ++ ex), rvs [x], readsRow (e := 60) (v := .slice (some ⟨q2, 0, none⟩) 1 1) (List.mem_append_right _ (by rw [exx, ev']; exact List.mem_cons_self)) (rowNew (by rw [rvs_length]; rfl) (by omega)), hone,
                    ?_, by simp only [rvs_length, List.length_append, List.length_singleton]; omega, by simp only [rvs_length, List.length_append, List.length_singleton, maxLen]; omega, ?_⟩
                  · rw [exx, ev']
                    exact (Weak.perm List.perm_append_comm).trans ((weakPull [1] rfl).trans (Weak.perm (List.Perm.cons _ (List.perm_append_comm (l₁ := [_])))))
                  rw [← rvs_append, List.append_assoc]
                  intro v' hv'
                  obtain ⟨q1, q3, rfl⟩ := hv'.cnt (by omega) (rvs_length _)
                  refine ⟨_, [_, _], weakMid, fun _ _ h => h, ?_⟩
                  conv => whnf
                  refine ⟨_, Weak.perm List.perm_append_comm, ?_⟩
                  conv => whnf
                  refine stC 3 rfl rfl (by first | (refine ⟨rfl, ?_⟩; repeat' (first | exact trivial | refine ⟨rfl, ?_⟩)) | simp [oneCells, Value.oneCell', setN]) ?_
                  conv => whnf
                  conv => whnf
                  repeat (refine ⟨_, wi (by omega), ?_⟩; conv => whnf)
                  refine ⟨rfl, rfl, m - 1, _, by omega, weakDel 1 rfl, _, ex ++ [x], by rw [show ((ex ++ [x]).length : Int) = ex.length + 1 by simp]; rfl, by simp; omega, .inr (by simp; omega), fun y hy => ?_, hv', rfl⟩
                  rcases List.mem_append.1 hy with hy | hy
                  · exact hex y hy
                  · rw [List.mem_singleton.1 hy, exx]; exact ⟨rfl, rfl, by show I64 (1000 + (ex.length : Int)); omega⟩
                · have hx' : ∀ x ∈ (r2 ++ ex), Reads ⟨H.M, (VA r2)⟩ x.v 1 (ints x.r.vs) := fun x hx => by
                    rcases List.mem_append.1 hx with h | h
                    · exact VA_reads hV (fun a ha => ha) x h
                    · rw [(hex x h).1, (hex x h).2.1]; exact VA_reads hV (fun a ha => ha) r2[i] hmem
                  have hs' : smT (n + 70) sz (r2 ++ ex) := ⟨by omega, hs.si, by rw [List.length_append]; omega, fun x hx => by
                    rcases List.mem_append.1 hx with h | h
                    · have := hx2 x h; exact ⟨this.1, by omega, this.2.2⟩
                    · have := hx2 _ hmem; rw [(hex x h).2.1]; exact ⟨(hex x h).2.2, by omega, this.2.2⟩⟩
                  conv => whnf
                  refine ldA 2 rfl rfl ?_
                  conv => whnf
                  refine stC 3 rfl rfl (by first | (refine ⟨rfl, ?_⟩; repeat' (first | exact trivial | refine ⟨rfl, ?_⟩)) | simp [oneCells, Value.oneCell', setN]) ?_
                  conv => whnf
                  refine ⟨rfl, ?_⟩
                  conv => whnf
                  refine ldA 3 rfl rfl ?_
                  conv => whnf
                  exact fin (weakSkip 2 3 rfl) (hR _ _ sz (r2 ++ ex) (_ :: _ :: (VA r2)) ⟨readsRow (e := 3) (List.mem_cons_of_mem _ List.mem_cons_self) hsv2, readsRow (e := 60) List.mem_cons_self hrs, fun x hx => ((hx') x hx).mono (hle_sub fun a ha => List.mem_cons_of_mem _ (List.mem_cons_of_mem _ ha))⟩ hs')
              · conv => whnf
                refine ifC_dec (fun k5 => ?_) (fun k5 => ?_)
                · -- many sizes
                  obtain ⟨c2, hc2⟩ : ∃ c2 : Nat, around by' 2 = c2 := ⟨(around by' 2).toNat, by have := around_bd by' 2 (by omega); omega⟩
                  have hc2b := around_bd by' 2 (by omega)
                  rw [hc2] at hc2b
                  conv => whnf
                  refine awp_loopL hT 197 [3, 8, 9] (fun m vs H' => ∃ (s : Value) (ex : List Int), vs = [.int .i64 by', ptr g8, ptr g9] ∧ m = 10 - (sz.length + ex.length) ∧ (ex = [] ∨ sz.length + ex.length ≤ 10) ∧ (∀ x ∈ ex, x = 1) ∧ RowVal s 1 (ints (sz ++ ex)) ∧
                    H' = ⟨H.M, .row (.slice (some ⟨gr, or', none⟩) r2.length s3) 60 2 (rvs r2) :: .row s 3 1 (ints (sz ++ ex)) :: .cells g9 25 [s, .slice (some ⟨gr, or', none⟩) r2.length s3] :: .cells g8 25 [.slice none 0 0, .slice none 0 0] :: .cells g4 25 [.slice ps sz.length cs, .slice pr rs.length cr] :: (VA r2 ++ H.L)⟩) (10 - sz.length) rfl rfl (Weak.refl _)
                    ⟨_, [], rfl, rfl, .inl rfl, by simp, by rw [List.append_nil]; exact hsv2, by rw [List.append_nil]⟩ ?_
                  rintro m u vs H' ⟨s, ex, rfl, hm, hexl, hex, hss, rfl⟩
                  obtain ⟨z1, z3, rfl⟩ := hss.cnt (by omega) (by rw [ints_length, Nat.mul_one])
                  have hle : ex.length ≤ 10 := by
                    rcases hexl with h | h
                    · rw [h]; simp
                    · omega
                  conv => whnf
                  refine awp_drawQ hT hM 7 (by kernel_rfl) ?_
                  conv => whnf
                  refine ldS 2 rfl rfl ?_
                  conv => whnf
                  refine c_Around by' 2 hy (by omega) _ _ ⟨Weak.refl _, ?_⟩
                  rw [hc2]
                  conv => whnf
                  repeat (refine ⟨_, wi (by omega), ?_⟩; conv => whnf)
                  refine ifC_dec (fun k6 => ?_) (fun k6 => ?_)
                  · rw [List.length_append] at k6
                    conv => whnf
                    refine ldS 2 rfl rfl ?_
                    conv => whnf
                    intro q
                    conv => whnf
                    refine ⟨H.M, _, ints (sz ++ ex), ints [1], readsNew rfl rfl, ints_one _, (weakDel 0 rfl).trans (weakPull [1] rfl), by rw [ints_length, ints_length]; simp; omega, by rw [ints_length, ints_length]; simp [maxLen]; omega, fun v' hv' => ?_⟩
                    rw [← ints_append, List.append_assoc] at hv' ⊢
                    obtain ⟨q1, q2, q3, rfl⟩ := hv'.slice
                    conv => whnf
                    refine stC 2 rfl rfl (by first | (refine ⟨rfl, ?_⟩; repeat' (first | exact trivial | refine ⟨rfl, ?_⟩)) | simp [oneCells, Value.oneCell', setN]) ?_
                    conv => whnf
                    conv => whnf
                    repeat (refine ⟨_, wi (by omega), ?_⟩; conv => whnf)
                    exact ⟨rfl, rfl, m - 1, _, by omega, weakPull [1, 0] rfl, _, ex ++ [1], rfl, by simp; omega, .inr (by simp; omega), fun y hy => (List.mem_append.1 hy).elim (hex y) fun h => List.mem_singleton.1 h, hv', rfl⟩
                  · have hs' : smT (n + 70) (sz ++ ex) r2 := ⟨by rw [List.length_append]; omega, fun y hy => (List.mem_append.1 hy).elim (hs.si y) fun h => by rw [hex y h]; omega, by omega, fun x hx => by have := hx2 x hx; exact ⟨this.1, by omega, this.2.2⟩⟩
                    conv => whnf
                    refine ldA 2 rfl rfl ?_
                    conv => whnf
                    refine stC 3 rfl rfl (by first | (refine ⟨rfl, ?_⟩; repeat' (first | exact trivial | refine ⟨rfl, ?_⟩)) | simp [oneCells, Value.oneCell', setN]) ?_
                    conv => whnf
                    refine ⟨rfl, ?_⟩
                    conv => whnf
                    refine ldA 3 rfl rfl ?_
                    conv => whnf
                    exact fin (weakSkip 2 3 rfl) (hR _ _ (sz ++ ex) r2 (_ :: _ :: (VA r2)) ⟨readsRow (e := 3) (List.mem_cons_of_mem _ List.mem_cons_self) hss, readsRow (e := 60) List.mem_cons_self hrv2, fun x hx => (((VA_reads hV fun a ha => ha)) x hx).mono (hle_sub fun a ha => List.mem_cons_of_mem _ (List.mem_cons_of_mem _ ha))⟩ hs')
                · -- a row twice
                  have hone : ∀ y ∈ rvs [r2[i]], y.oneCell' = true := by rw [rvs, List.flatMap_cons, rvc, ev']; simp [Value.oneCell']
                  conv => whnf
                  refine awp_drawL (lk := [99]) hT hM 9 (List.range 9) (by kernel_rfl) H.M (.row (.slice a1 sz.length a3) 3 1 (ints sz) :: .cells g9 25 [.slice a1 sz.length a3, .slice (some ⟨gr, or', none⟩) r2.length s3] :: .cells g8 25 [.slice none 0 0, .slice none 0 0] :: .cells g4 25 [.slice ps sz.length cs, .slice pr rs.length cr] :: (VA r2 ++ H.L)) [.row (.slice (some ⟨gr, or', none⟩) r2.length s3) 60 2 (rvs r2)] (Weak.perm (List.perm_append_comm (l₁ := [_]))) ?_
                  conv => whnf
                  refine ldS 1 rfl rfl ?_
                  conv => whnf
                  refine ldS 1 rfl rfl ?_
                  conv => whnf
                  refine ⟨gr, or', rfl, by omega, ?_⟩
                  conv => whnf
                  refine ⟨rvc r2[i], rfl, hce _ (by simp), ?_⟩
                  unfold rvc
                  rw [ev']
                  refine ⟨_, _, Weak.refl _, fun _ _ h => h, ?_⟩
                  conv => whnf
                  intro q2
                  conv => whnf
                  refine ⟨H.M, (.row (.slice a1 sz.length a3) 3 1 (ints sz) :: .cells g9 25 [.slice a1 sz.length a3, .slice (some ⟨gr, or', none⟩) r2.length s3] :: .cells g8 25 [.slice none 0 0, .slice none 0 0] :: .cells g4 25 [.slice ps sz.length cs, .slice pr rs.length cr] :: (VA r2 ++ H.L)) ++ [.row (.slice (some ⟨q2, 0, none⟩) 1 1) 60 2 (rvs [r2[i]])], rvs r2, rvs [r2[i]], readsRow (e := 60) (v := .slice (some ⟨q2, 0, none⟩) 1 1) (List.mem_append_right _ (by simp only [rvs, rvc, List.flatMap_cons, List.flatMap_nil, List.append_nil, ev']; exact List.mem_cons_self)) (rowNew (by rw [rvs_length]; rfl) (by omega)), hone,
                    ?_, by simp only [rvs_length, List.length_singleton]; omega, by simp only [rvs_length, List.length_singleton, maxLen]; omega, ?_⟩
                  · simp only [rvs, rvc, List.flatMap_cons, List.flatMap_nil, List.append_nil, ev']
                    exact (Weak.perm List.perm_append_comm).trans ((weakPull [1] rfl).trans (Weak.perm (List.Perm.cons _ (List.perm_append_comm (l₁ := [_])))))
                  rw [← rvs_append]
                  intro v' hv'
                  obtain ⟨q1, q3, rfl⟩ := hv'.cnt (by omega) (rvs_length _)
                  refine ⟨_, [_, _], weakMid, fun _ _ h => h, ?_⟩
                  conv => whnf
                  refine ⟨_, (Weak.perm List.perm_append_comm).trans (weakDel 1 rfl), ?_⟩
                  conv => whnf
                  refine stC 2 rfl rfl (by first | (refine ⟨rfl, ?_⟩; repeat' (first | exact trivial | refine ⟨rfl, ?_⟩)) | simp [oneCells, Value.oneCell', setN]) ?_
                  conv => whnf
                  have hx' : ∀ x ∈ (r2 ++ [r2[i]]), Reads ⟨H.M, (VA r2)⟩ x.v 1 (ints x.r.vs) := fun x hx => by
                    rcases List.mem_append.1 hx with h | h
                    · exact VA_reads hV (fun a ha => ha) x h
                    · rw [List.mem_singleton.1 h]; exact VA_reads hV (fun a ha => ha) r2[i] hmem
                  have hs' : smT (n + 70) sz (r2 ++ [r2[i]]) := ⟨by omega, hs.si, by rw [List.length_append]; simp; omega, fun x hx => by
                    rcases List.mem_append.1 hx with h | h
                    · have := hx2 x h; exact ⟨this.1, by omega, this.2.2⟩
                    · have := hx2 _ hmem; rw [List.mem_singleton.1 h]; exact ⟨this.1, by omega, this.2.2⟩⟩
                  conv => whnf
                  refine ldA 2 rfl rfl ?_
                  conv => whnf
                  refine stC 3 rfl rfl (by first | (refine ⟨rfl, ?_⟩; repeat' (first | exact trivial | refine ⟨rfl, ?_⟩)) | simp [oneCells, Value.oneCell', setN]) ?_
                  conv => whnf
                  refine ⟨rfl, ?_⟩
                  conv => whnf
                  refine ldA 3 rfl rfl ?_
                  conv => whnf
                  exact fin (weakSkip 2 3 rfl) (hR _ _ sz (r2 ++ [r2[i]]) (_ :: _ :: (VA r2)) ⟨readsRow (e := 3) (List.mem_cons_of_mem _ List.mem_cons_self) hsv2, readsRow (e := 60) List.mem_cons_self hv', fun x hx => ((hx') x hx).mono (hle_sub fun a ha => List.mem_cons_of_mem _ (List.mem_cons_of_mem _ ha))⟩ hs')
end Go.Proofs.Ytohdcmkooedkcaa.A
