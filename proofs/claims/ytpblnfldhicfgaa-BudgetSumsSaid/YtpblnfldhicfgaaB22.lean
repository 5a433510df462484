/- dioramalaw24: BudgetBegins. -/
import Derived.Test.YtpblnfldhicfgaaB21
namespace Go.Proofs.Ytpblnfldhicfgaa.A
open Go Go.RowKit
set_option linter.unusedVariables false
set_option linter.unusedSimpArgs false
set_option maxRecDepth 20000

structure NewCase where
  vp : Value
  p : List Fr
  vo : Value
  o : List Int
  vq : Value
  q : List Fr
structure NewCase.ok (H : Hp) (c : NewCase) : Prop where
  p : FrsAt H c.vp c.p
  o : IntsAt H c.vo c.o
  q : FrsAt H c.vq c.q
theorem nilF (H : Hp) : FrsAt H (.slice none 0 0) [] := ⟨⟨none, 0, 0, rfl, Nat.le_refl _, rfl, fun h => absurd h (by omega)⟩, by simp, by simp⟩
theorem nilI (H : Hp) : IntsAt H (.slice none 0 0) [] := ⟨⟨none, 0, 0, rfl, Nat.le_refl _, rfl, fun h => absurd h (by omega)⟩, by simp, by simp⟩
theorem okF_I {l : List Fr} (h : ∀ x ∈ l, okF x) : ∀ x ∈ l, x.I := fun x hx => (h x hx).I
theorem set_I {l : List Fr} (h : ∀ x ∈ l, x.I) {a : Fr} (ha : a.I) (k : Nat) : ∀ x ∈ l.set k a, x.I := fun x hx => by
  rcases List.mem_or_eq_of_mem_set hx with h' | h'
  · exact h x h'
  · subst h'; exact ha
theorem RowVal.le {p : Option Addr} {n c sz : Nat} {xs : List Value} (h : RowVal (.slice p n c) sz xs) : n ≤ c := by
  rcases h with ⟨h, _⟩ | ⟨g, o, n', c', h, _, h2, _⟩
  · cases h; exact Nat.le_refl _
  · cases h; exact h2
/-- A row of slices: each in one cell. -/
theorem cellRow {H : Hp} {g n : Nat} {e : TypeId} {xs : List Value} (i : Nat) (h : H.L[i]? = some (.row (.slice (some ⟨g, 0, none⟩) n n) e 1 xs)) (k : Nat) {v : Value} (hk : xs[k]? = some v) : H.cell g (0 + (k : Int).toNat * 1) v :=
  .inr ⟨_, List.mem_of_getElem? h, rfl, by simp, by simpa using hk⟩

set_option maxHeartbeats 4000000 in
theorem c_BudgetBegins (v : Value) (l : List Int) (at' by' : Int) (odd : Fr) (many : Int) (H : Hp) (hv : IntsAt H v l) (ha : I64 at') (hb : I64 by') (hodd : odd.I) (hmany : I64 many) (R : Ending → Hp → Prop) (hR : ∀ H', R (.returned (.bool true)) H') :
    ACalls Try.prog 3 [v, .int .i64 at', .int .i64 by', odd.v, .int .i64 many] H R := by
  have bn := bgN_bd l
  have bm := bgM_bd l
  refine acalls_code hT Try.func3 rfl rfl ?_
  conv => whnf
  intro go
  have hv := hv.mono (HLe.cons H (frA go odd))
  conv => whnf
  refine c_Begin v l _ hv _ ?_
  intro a b c va vb vc
  obtain ⟨pa, ca, rfl, _⟩ := frsAt (H := ⟨H.M, [.row a 24 2 (frs (bgP l))]⟩) (readsRow List.mem_cons_self va)
  obtain ⟨pb, cb, rfl, _⟩ := intsAt (H := ⟨H.M, [.row b 3 1 (ints (bgO l (bgN l)))]⟩) (readsRow List.mem_cons_self vb)
  obtain ⟨pc, cc, rfl, _⟩ := frsAt (H := ⟨H.M, [.row c 24 2 (frs (bgQ l))]⟩) (readsRow List.mem_cons_self vc)
  have hP : ∀ x ∈ bgP l, okF x := costL_ok _ _ _ _
  have hQ : ∀ x ∈ bgQ l, okF x := costL_ok _ _ _ _
  have lP : (bgP l).length = bgN l := costL_length _ _ _ _
  have lQ : (bgQ l).length = bgM l := costL_length _ _ _ _
  have lO : (bgO l (bgN l)).length = bgN l := bgO_length _ _
  have hO := bgO_bd l (bgN l)
  conv => whnf
  intro g1
  conv => whnf
  refine ⟨H.M, _, [], frs (bgP l), readsRow (e := 24) (by simp) va, frs_one _, Weak.refl _, by rw [frs_length]; simp; omega, by rw [frs_length]; simp [maxLen]; omega, fun p2 r2 => ?_⟩
  rw [List.nil_append] at *
  obtain ⟨q2, c2, rfl, h2⟩ := frsAt (H := ⟨H.M, [.row p2 24 2 (frs (bgP l))]⟩) (readsRow List.mem_cons_self r2)
  conv => whnf
  refine awp_drawQ hT hM 6 (by kernel_rfl) ?_
  conv => whnf
  refine c_Around _ _ ha (by omega) _ _ ?_
  have hx := around_bd at' (bgP l).length (by omega)
  obtain ⟨k, hk⟩ : ∃ k : Nat, around at' (bgP l).length = k := ⟨(around at' (bgP l).length).toNat, by omega⟩
  rw [hk] at hx
  rw [hk]
  obtain ⟨gp2, op2, rfl, _⟩ := h2 k (by omega) (by omega)
  refine ⟨Weak.refl _, ?_⟩
  conv => whnf
  refine ldA 4 rfl rfl ?_
  conv => whnf
  refine ⟨gp2, op2, rfl, by omega, ?_⟩
  conv => whnf
  refine stF 0 rfl k odd (by omega) rfl ?_
  conv => whnf
  have r2' := r2.len (ys := frs ((bgP l).set k odd)) (by rw [frs_length, frs_length, List.length_set])
  have iP2 : ∀ x ∈ (bgP l).set k odd, x.I := set_I (okF_I hP) hodd k
  have iO : ∀ x ∈ bgO l (bgN l), I64 x := fun x hx => by have := hO x hx; omega
  refine c_Take _ (bgO l (bgN l)) (bgO l (bgN l)).length _ (intsRow 3 rfl vb iO (by omega)) (by omega) _ ?_
  rw [List.take_length]
  intro o2 s2
  obtain ⟨qo, co, rfl, h3⟩ := intsAt (H := ⟨H.M, [.row o2 3 1 (ints (bgO l (bgN l)))]⟩) (readsRow List.mem_cons_self s2)
  conv => whnf
  refine c_Around _ _ ha (by omega) _ _ ?_
  have hy := around_bd at' (bgO l (bgN l)).length (by omega)
  obtain ⟨j, hj⟩ : ∃ j : Nat, around at' (bgO l (bgN l)).length = j := ⟨(around at' (bgO l (bgN l)).length).toNat, by omega⟩
  rw [hj] at hy
  rw [hj]
  obtain ⟨gp3, op3, rfl, _⟩ := h3 j (by omega) (by omega)
  conv => whnf
  refine ⟨gp3, op3, rfl, by omega, ?_⟩
  conv => whnf
  refine stW 0 rfl j (by simp) (by rw [ints_length]; simp; omega) ⟨rfl, trivial⟩ (ints_set _ _ _) ?_
  have s2' := s2.len (ys := ints ((bgO l (bgN l)).set j by')) (by rw [ints_length, ints_length, List.length_set])
  have iO2 : ∀ x ∈ (bgO l (bgN l)).set j by', I64 x := fun x hx => by
    rcases List.mem_or_eq_of_mem_set hx with h' | h'
    · exact iO x h'
    · subst h'; exact hb
  conv => whnf
  refine awp_draw hT hM 6 (List.range 6) (by kernel_rfl) H.M (.row (.slice (some ⟨gp3, op3, none⟩) (bgO l (bgN l)).length co) 3 1 (ints ((bgO l (bgN l)).set j by')) :: .row (.slice (some ⟨gp2, op2, none⟩) (bgP l).length c2) 24 2 (frs ((bgP l).set k odd)) :: .row (.slice pc (bgQ l).length cc) 24 2 (frs (bgQ l)) :: .row (.slice pa (bgP l).length ca) 24 2 (frs (bgP l)) :: .row (.slice pb (bgO l (bgN l)).length cb) 3 1 (ints (bgO l (bgN l))) :: frA go odd :: H.L) [] (by rw [List.append_nil]; exact Weak.refl _) ?_
  conv => whnf
  intro g4
  conv => whnf
  refine ⟨H.M, _ ++ [], [], frs (bgQ l), (readsRow (e := 24) (by simp) vc), frs_one _, Weak.perm List.perm_middle, by rw [frs_length]; simp; omega, by rw [frs_length]; simp [maxLen]; omega, fun v4 r4 => ?_⟩
  rw [List.nil_append] at *
  refine ⟨_, _ :: _, weakMid, fun _ _ h => h, ?_⟩
  conv => whnf
  refine ldA 5 rfl rfl ?_
  conv => whnf
  intro g5
  conv => whnf
  have lQ1 : (frs (bgQ l ++ [odd])).length = (bgM l + 1) * 2 := by rw [frs_length]; simp [lQ]
  refine ⟨H.M, _ ++ [.row (.slice (some ⟨g5, 0, none⟩) 1 1) 24 2 (frs [odd])], frs (bgQ l), frs [odd], ?_, frs_one _, Weak.perm ((List.Perm.append_left _ (List.Perm.swap ..)).trans List.perm_middle), by rw [← List.length_append, ← frs_append, lQ1]; omega, by rw [← List.length_append, ← frs_append, lQ1]; simp [maxLen]; omega, fun v6 r6 => ?_⟩
  · exact readsRow (e := 24) (v := .slice (some ⟨g5, 0, none⟩) 1 1) (xs := frs [odd]) (by simp [frs, Fr.cs]) (rowNew rfl (by omega))
  rw [← frs_append] at *
  refine ⟨_, _ :: _, weakMid, fun _ _ h => h, ?_⟩
  conv => whnf
  refine ⟨_, Weak.perm List.perm_append_comm, ?_⟩
  conv => whnf
  obtain ⟨q6, c6, rfl, _⟩ := frsAt (H := ⟨H.M, [.row v6 24 2 (frs (bgQ l ++ [odd]))]⟩) (readsRow List.mem_cons_self r6)
  have hz := around_bd many 12 (by omega)
  obtain ⟨z, ez⟩ : ∃ z : Nat, around many 12 = z := ⟨(around many 12).toNat, by omega⟩
  rw [ez] at hz
  have hy7 := around_bd many 7 (by omega)
  obtain ⟨y, ey⟩ : ∃ y : Nat, around many 7 = y := ⟨(around many 7).toNat, by omega⟩
  rw [ey] at hy7
  refine c_Around _ _ hmany (by omega) _ _ ?_
  rw [ez]
  conv => whnf
  repeat (refine ⟨_, wi (by omega), ?_⟩; conv => whnf)
  refine ⟨250 + z, by omega, by omega, by omega, by simp [maxLen]; omega, fun g7 => ?_⟩
  rw [repZ_frs]
  conv => whnf
  intro g8
  conv => whnf
  refine awp_draw hT hM 14 (List.range 14) (by kernel_rfl) H.M _ [] (by rw [List.append_nil]; exact Weak.refl _) ?_
  conv => whnf
  refine c_Around _ _ hmany (by omega) _ _ ?_
  rw [ez]
  refine ⟨_, _, Weak.refl _, fun _ _ h => h, ?_⟩
  conv => whnf
  repeat (refine ⟨_, wi (by omega), ?_⟩; conv => whnf)
  refine ⟨250 + z, by omega, by omega, by omega, by simp [maxLen]; omega, fun g9 => ?_⟩
  rw [repZ_ints]
  conv => whnf
  refine ⟨_, wi (by omega), ?_⟩
  conv => whnf
  have hcb := vb.le
  refine ⟨(bgO l (bgN l)).length - 1, by omega, by omega, ?_⟩
  conv => whnf
  intro g10
  conv => whnf
  refine ⟨_, Weak.perm List.perm_append_comm, ?_⟩
  conv => whnf
  refine c_Around _ _ hmany (by omega) _ _ ?_
  rw [ey]
  conv => whnf
  repeat (refine ⟨_, wi (by omega), ?_⟩; conv => whnf)
  refine ⟨12 + y, by omega, by omega, by omega, by simp [maxLen]; omega, fun g11 => ?_⟩
  rw [repZ_frs]
  conv => whnf
  intro g12
  conv => whnf
  obtain ⟨T, eT⟩ : ∃ T, T = (⟨H.M, .row (.slice (some ⟨g12, 0, none⟩) 7 7) 25 1 [.slice pc (bgQ l).length cc, .slice pc (bgQ l).length cc, .slice pc (bgQ l).length cc, .slice q6 (bgQ l ++ [odd]).length c6, .slice pc (bgQ l).length cc, .slice (some ⟨g11, 0, none⟩) (12 + y) (12 + y), .slice pc (bgQ l).length cc] :: .row (.slice (some ⟨g11, 0, none⟩) (12 + y) (12 + y)) 24 2 (frs (List.replicate (12 + y) ⟨0, 0⟩)) :: .row (.slice (some ⟨g10, 0, none⟩) 7 7) 22 1 [.slice pb (bgO l (bgN l)).length cb, .slice pb (bgO l (bgN l)).length cb, .slice (some ⟨gp3, op3, none⟩) (bgO l (bgN l)).length co, .slice pb (bgO l (bgN l)).length cb, .slice (some ⟨g9, 0, none⟩) (250 + z) (250 + z), .slice none 0 0, .slice (subAddr pb cb 0 1) ((bgO l (bgN l)).length - 1 - 0) (cb - 0)] :: .row (.slice (some ⟨g9, 0, none⟩) (250 + z) (250 + z)) 3 1 (ints (List.replicate (250 + z) 0)) :: .row (.slice (some ⟨g8, 0, none⟩) 7 7) 25 1 [.slice pa (bgP l).length ca, .slice (some ⟨gp2, op2, none⟩) (bgP l).length c2, .slice pa (bgP l).length ca, .slice pa (bgP l).length ca, .slice (some ⟨g7, 0, none⟩) (250 + z) (250 + z), .slice none 0 0, .slice pa (bgP l).length ca] :: .row (.slice (some ⟨g7, 0, none⟩) (250 + z) (250 + z)) 24 2 (frs (List.replicate (250 + z) ⟨0, 0⟩)) :: .row (.slice q6 (bgQ l ++ [odd]).length c6) 24 2 (frs (bgQ l ++ [odd])) :: .row (.slice (some ⟨g5, 0, none⟩) 1 1) 24 2 (frs [odd]) :: .row (.slice (some ⟨gp3, op3, none⟩) (bgO l (bgN l)).length co) 3 1 (ints ((bgO l (bgN l)).set j by')) :: .row (.slice (some ⟨gp2, op2, none⟩) (bgP l).length c2) 24 2 (frs ((bgP l).set k odd)) :: .row (.slice pc (bgQ l).length cc) 24 2 (frs (bgQ l)) :: .row (.slice pa (bgP l).length ca) 24 2 (frs (bgP l)) :: .row (.slice pb (bgO l (bgN l)).length cb) 3 1 (ints (bgO l (bgN l))) :: frA go odd :: H.L⟩ : Hp) := ⟨_, rfl⟩
  refine AWp.weak (H1 := T) (by rw [eT]; exact Weak.refl _) ?_
  obtain ⟨C, eC⟩ : ∃ C, C = ([⟨.slice pa (bgP l).length ca, bgP l, .slice pb (bgO l (bgN l)).length cb, bgO l (bgN l), .slice pc (bgQ l).length cc, bgQ l⟩, ⟨.slice (some ⟨gp2, op2, none⟩) (bgP l).length c2, (bgP l).set k odd, .slice pb (bgO l (bgN l)).length cb, bgO l (bgN l), .slice pc (bgQ l).length cc, bgQ l⟩, ⟨.slice pa (bgP l).length ca, bgP l, .slice (some ⟨gp3, op3, none⟩) (bgO l (bgN l)).length co, (bgO l (bgN l)).set j by', .slice pc (bgQ l).length cc, bgQ l⟩, ⟨.slice pa (bgP l).length ca, bgP l, .slice pb (bgO l (bgN l)).length cb, bgO l (bgN l), .slice q6 (bgQ l ++ [odd]).length c6, bgQ l ++ [odd]⟩, ⟨.slice (some ⟨g7, 0, none⟩) (250 + z) (250 + z), List.replicate (250 + z) ⟨0, 0⟩, .slice (some ⟨g9, 0, none⟩) (250 + z) (250 + z), List.replicate (250 + z) 0, .slice pc (bgQ l).length cc, bgQ l⟩, ⟨.slice none 0 0, [], .slice none 0 0, [], .slice (some ⟨g11, 0, none⟩) (12 + y) (12 + y), List.replicate (12 + y) ⟨0, 0⟩⟩, ⟨.slice pa (bgP l).length ca, bgP l, .slice (subAddr pb cb 0 1) ((bgO l (bgN l)).length - 1 - 0) (cb - 0), (bgO l (bgN l)).take ((bgO l (bgN l)).length - 1), .slice pc (bgQ l).length cc, bgQ l⟩] : List NewCase) := ⟨_, rfl⟩
  have c17 : T.L[4]? = some (.row (.slice (some ⟨g8, 0, none⟩) 7 7) 25 1 (C.map NewCase.vp)) := by rw [eT, eC]; rfl
  have c18 : T.L[2]? = some (.row (.slice (some ⟨g10, 0, none⟩) 7 7) 22 1 (C.map NewCase.vo)) := by rw [eT, eC]; rfl
  have c19 : T.L[0]? = some (.row (.slice (some ⟨g12, 0, none⟩) 7 7) 25 1 (C.map NewCase.vq)) := by rw [eT, eC]; rfl
  have lC : C.length = 7 := by rw [eC]; rfl
  have iQ2 : ∀ x ∈ bgQ l ++ [odd], x.I := fun x hx => by
    rcases List.mem_append.1 hx with h | h
    · exact (hQ x h).I
    · rw [List.mem_singleton.1 h]; exact hodd
  have iz : ∀ n, ∀ x ∈ List.replicate n (⟨0, 0⟩ : Fr), x.I := fun n x hx => by rw [List.eq_of_mem_replicate hx]; exact ⟨by show I64 0; omega, by show I64 0; omega⟩
  have izI : ∀ n, ∀ x ∈ List.replicate n (0 : Int), I64 x := fun n x hx => by rw [List.eq_of_mem_replicate hx]; omega
  have fP : FrsAt T (.slice pa (bgP l).length ca) (bgP l) := frsRow 11 (by rw [eT]; rfl) va (okF_I hP) (by omega)
  have fP2 : FrsAt T (.slice (some ⟨gp2, op2, none⟩) (bgP l).length c2) ((bgP l).set k odd) := frsRow 9 (by rw [eT]; rfl) r2' iP2 (by rw [List.length_set]; omega)
  have fQ : FrsAt T (.slice pc (bgQ l).length cc) (bgQ l) := frsRow 10 (by rw [eT]; rfl) vc (okF_I hQ) (by omega)
  have fQ2 : FrsAt T (.slice q6 (bgQ l ++ [odd]).length c6) (bgQ l ++ [odd]) := frsRow 6 (by rw [eT]; rfl) r6 iQ2 (by simp; omega)
  have fZ : FrsAt T (.slice (some ⟨g7, 0, none⟩) (250 + z) (250 + z)) (List.replicate (250 + z) ⟨0, 0⟩) := frsRow 5 (by rw [eT]; rfl) (rowNew (by rw [replicate_frs]) (by omega)) (iz _) (by simp; omega)
  have fZQ : FrsAt T (.slice (some ⟨g11, 0, none⟩) (12 + y) (12 + y)) (List.replicate (12 + y) ⟨0, 0⟩) := frsRow 1 (by rw [eT]; rfl) (rowNew (by rw [replicate_frs]) (by omega)) (iz _) (by simp; omega)
  have fO : IntsAt T (.slice pb (bgO l (bgN l)).length cb) (bgO l (bgN l)) := intsRow 12 (by rw [eT]; rfl) vb iO (by omega)
  have fO2 : IntsAt T (.slice (some ⟨gp3, op3, none⟩) (bgO l (bgN l)).length co) ((bgO l (bgN l)).set j by') := intsRow 8 (by rw [eT]; rfl) s2' iO2 (by rw [List.length_set]; omega)
  have fZI : IntsAt T (.slice (some ⟨g9, 0, none⟩) (250 + z) (250 + z)) (List.replicate (250 + z) 0) := intsRow 3 (by rw [eT]; rfl) (rowNew (by simp [ints_length]) (by omega)) (izI _) (by simp; omega)
  have fO7 : IntsAt T (.slice (subAddr pb cb 0 1) ((bgO l (bgN l)).length - 1 - 0) (cb - 0)) ((bgO l (bgN l)).take ((bgO l (bgN l)).length - 1)) := fO.take _ (by omega)
  have hC : ∀ x ∈ C, x.ok T := by
    rw [eC]
    intro x hx
    simp only [List.mem_cons, List.not_mem_nil, or_false] at hx
    rcases hx with rfl | rfl | rfl | rfl | rfl | rfl | rfl
    · exact ⟨fP, fO, fQ⟩
    · exact ⟨fP2, fO, fQ⟩
    · exact ⟨fP, fO2, fQ⟩
    · exact ⟨fP, fO, fQ2⟩
    · exact ⟨fZ, fZI, fQ⟩
    · exact ⟨nilF T, nilI T, fZQ⟩
    · exact ⟨fP, fO7, fQ⟩
  clear eC eT
  refine awp_loopL hT 152 [17, 18, 19, 20] (fun n vs H' => ∃ k : Nat, vs = [.slice (some ⟨g8, 0, none⟩) 7 7, .slice (some ⟨g10, 0, none⟩) 7 7, .slice (some ⟨g12, 0, none⟩) 7 7, .int .i64 k] ∧ n + k = 7 ∧ H' = T) 7 rfl rfl (Weak.refl _) ⟨0, rfl, rfl, rfl⟩ ?_
  rintro n u vs Hx ⟨i, rfl, hi, hHx⟩
  rw [hHx]
  clear hHx Hx
  conv => whnf
  refine ifC_dec (fun t1 => ?_) (fun t1 => ?_)
  · have hiC : i < C.length := by omega
    have hx := hC _ (List.getElem_mem hiC)
    have k17 := cellRow 4 c17 i (v := C[i].vp) (by simp [hiC])
    have k18 := cellRow 2 c18 i (v := C[i].vo) (by simp [hiC])
    have k19 := cellRow 0 c19 i (v := C[i].vq) (by simp [hiC])
    generalize C[i] = cas at *
    conv => whnf
    by_cases he : newErr cas.p cas.o cas.q = 0
    · have hB := newB_ok he
      refine awp_draw hT hM 17 (List.range 17) (by kernel_rfl) T.M T.L [] (by rw [List.append_nil]; exact Weak.refl _) ?_
      conv => whnf
      refine ⟨g8, 0, rfl, by omega, ?_⟩
      conv => whnf
      refine ⟨_, k17, ?_⟩
      conv => whnf
      refine ⟨g10, 0, rfl, by omega, ?_⟩
      conv => whnf
      refine ⟨_, k18, ?_⟩
      conv => whnf
      refine ⟨g12, 0, rfl, by omega, ?_⟩
      conv => whnf
      refine ⟨_, k19, ?_⟩
      conv => whnf
      refine c_New _ _ _ cas.p cas.o cas.q _ (hx.p.mono (hle_app _ _ _)) (hx.o.mono (hle_app _ _ _)) (hx.q.mono (hle_app _ _ _)) _ (fun h => absurd he h) (fun _ g a b c d hV => ?_)
      refine ⟨_, bkA g a b c d (newB cas.p cas.o cas.q), by rw [List.append_nil]; exact Weak.perm List.perm_append_comm, fun _ _ h => h, ?_⟩
      conv => whnf
      refine ⟨⟨T.M, bkA g a b c d (newB cas.p cas.o cas.q) ++ T.L⟩, Weak.perm List.perm_append_comm, ?_⟩
      conv => whnf
      have h1 : HLe T ⟨T.M, bkA g a b c d (newB cas.p cas.o cas.q) ++ T.L⟩ := hle_pre _ _
      refine awp_draw hT hM 17 (List.range 17) (by kernel_rfl) T.M (bkA g a b c d (newB cas.p cas.o cas.q) ++ T.L) [] (by rw [List.append_nil]; exact Weak.refl _) ?_
      conv => whnf
      refine ⟨g8, 0, rfl, by omega, ?_⟩
      conv => whnf
      refine ⟨_, h1 _ _ _ k17, ?_⟩
      conv => whnf
      refine ⟨g10, 0, rfl, by omega, ?_⟩
      conv => whnf
      refine ⟨_, h1 _ _ _ k18, ?_⟩
      conv => whnf
      refine ⟨g12, 0, rfl, by omega, ?_⟩
      conv => whnf
      refine ⟨_, h1 _ _ _ k19, ?_⟩
      conv => whnf
      refine c_New24 _ _ _ cas.p cas.o cas.q _ ((hx.p.mono h1).mono (hle_app _ _ _)) ((hx.o.mono h1).mono (hle_app _ _ _)) ((hx.q.mono h1).mono (hle_app _ _ _)) _ (fun h => absurd he h) (fun _ g' a' b' c' d' e' f' hV' => ?_)
      refine ⟨_, rbA g' a' b' c' d' e' f' (newB cas.p cas.o cas.q), by rw [List.append_nil]; exact Weak.perm List.perm_append_comm, fun _ _ h => h, ?_⟩
      conv => whnf
      refine ⟨⟨T.M, rbA g' a' b' c' d' e' f' (newB cas.p cas.o cas.q) ++ (bkA g a b c d (newB cas.p cas.o cas.q) ++ T.L)⟩, Weak.perm List.perm_append_comm, ?_⟩
      conv => whnf
      refine c_agrees g a b c d g' a' b' c' d' e' f' _ _ hB ((bkAt hV).mono (hle_pre _ _)) (rbAt hV') _ ?_
      conv => whnf
      repeat (refine ⟨_, wi (by omega), ?_⟩; conv => whnf)
      exact ⟨rfl, rfl, n - 1, _, by omega, (Weak.dropAll _ _ _).trans (Weak.dropAll _ _ _), i + 1, rfl, by omega, rfl⟩
    · refine awp_draw hT hM 17 (List.range 17) (by kernel_rfl) T.M T.L [] (by rw [List.append_nil]; exact Weak.refl _) ?_
      conv => whnf
      refine ⟨g8, 0, rfl, by omega, ?_⟩
      conv => whnf
      refine ⟨_, k17, ?_⟩
      conv => whnf
      refine ⟨g10, 0, rfl, by omega, ?_⟩
      conv => whnf
      refine ⟨_, k18, ?_⟩
      conv => whnf
      refine ⟨g12, 0, rfl, by omega, ?_⟩
      conv => whnf
      refine ⟨_, k19, ?_⟩
      conv => whnf
      refine c_New _ _ _ cas.p cas.o cas.q _ (hx.p.mono (hle_app _ _ _)) (hx.o.mono (hle_app _ _ _)) (hx.q.mono (hle_app _ _ _)) _ (fun _ => ?_) (fun h => absurd h he)
      refine ⟨_, _, Weak.refl _, fun _ _ h => h, ?_⟩
      conv => whnf
      refine ⟨T, by rw [List.append_nil]; exact Weak.refl _, ?_⟩
      conv => whnf
      refine awp_draw hT hM 17 (List.range 17) (by kernel_rfl) T.M T.L [] (by rw [List.append_nil]; exact Weak.refl _) ?_
      conv => whnf
      refine ⟨g8, 0, rfl, by omega, ?_⟩
      conv => whnf
      refine ⟨_, k17, ?_⟩
      conv => whnf
      refine ⟨g10, 0, rfl, by omega, ?_⟩
      conv => whnf
      refine ⟨_, k18, ?_⟩
      conv => whnf
      refine ⟨g12, 0, rfl, by omega, ?_⟩
      conv => whnf
      refine ⟨_, k19, ?_⟩
      conv => whnf
      refine c_New24 _ _ _ cas.p cas.o cas.q _ (hx.p.mono (hle_app _ _ _)) (hx.o.mono (hle_app _ _ _)) (hx.q.mono (hle_app _ _ _)) _ (fun _ => ?_) (fun h => absurd h he)
      refine ⟨_, _, Weak.refl _, fun _ _ h => h, ?_⟩
      conv => whnf
      refine ⟨T, by rw [List.append_nil]; exact Weak.refl _, ?_⟩
      conv => whnf
      generalize newErr cas.p cas.o cas.q = e at *
      refine ifC_neg (by simp) ?_
      conv => whnf
      refine ifC_f (by simp [he]) ?_
      conv => whnf
      refine ifC_neg (he) ?_
      conv => whnf
      repeat (refine ⟨_, wi (by omega), ?_⟩; conv => whnf)
      exact ⟨rfl, rfl, n - 1, _, by omega, Weak.refl _, i + 1, rfl, by omega, rfl⟩
  · conv => whnf
    refine c_lives _ _ ?_
    conv => whnf
    refine ⟨rfl, ?_⟩
    conv => whnf
    exact fin (Weak.refl _) (hR _)
end Go.Proofs.Ytpblnfldhicfgaa.A
