/- dioramaref26: Do; dioramalaw26: agree; consent: Copy, a nil book. -/
import Derived.Test.YtjgljgkfflojbaaE3
import Derived.Test.YtjgljgkfflojbaaMC
namespace Go.Proofs.Ytjgljgkfflojbaa.A
open Go Go.RowKit
set_option linter.unusedVariables false
set_option linter.unusedSimpArgs false
set_option maxRecDepth 20000

/-- The reference's book in pieces Y of its own; the slices of its things may lie in K. -/
def Rb (g : Nat) (S : St) (M : Nat → Option Obj) (K Y : List Atom) : Prop :=
  ∃ tv bv uv gv ts N, S = stOf ts S.gone ∧ RfV tv bv uv gv ts S.gone ∧ (∀ x ∈ ts, ThAt ⟨M, N ++ K⟩ x) ∧ Y = rfA g tv bv uv gv ts S.gone ++ N
theorem Rb.up {g : Nat} {S : St} {M : Nat → Option Obj} {K K' Y : List Atom} (h : Rb g S M K Y) (hk : ∀ a ∈ K, a ∈ K') : Rb g S M K' Y := by
  obtain ⟨tv, bv, uv, gv, ts, N, h1, h2, h3, h4⟩ := h
  exact ⟨tv, bv, uv, gv, ts, N, h1, h2, fun x hx => (h3 x hx).mono (hle_sub fun a ha => (List.mem_append.1 ha).elim (fun h => List.mem_append_left _ h) fun h => List.mem_append_right _ (hk a h)), h4⟩
theorem gone_len {S : St} (h : okS S) : S.gone.length ≤ 65536 := by
  have hnd : (S.gone.map Int.toNat).Nodup := by
    refine (List.pairwise_map.2 ((List.Pairwise.and_mem.1 h.nd).imp ?_))
    rintro a b ⟨ha, hb, hne⟩ e
    have := h.gone a ha
    have := h.gone b hb
    exact hne (by omega)
  have hsub : (S.gone.map Int.toNat) ⊆ List.range 65536 := fun y hy => by
    obtain ⟨x, hx, rfl⟩ := List.mem_map.1 hy
    have := h.gone x hx
    exact List.mem_range.2 (by omega)
  have := hnd.length_le_of_subset hsub
  simpa using this
theorem mk_cases {S : St} {f p : List Int} : ((mkS S f p).2.2 ≠ 0 ∧ (mkS S f p).1 = S ∧ (mkS S f p).2.1 = 0) ∨ (mkS S f p = ((⟨S.ts ++ [⟨f, p, norm (baseL S f p), true⟩], S.gone⟩ : St), (S.ts.length : Int), (0 : Int))) := by
  unfold mkS
  repeat' split
  all_goals first | (left; exact ⟨by simp, rfl, rfl⟩) | (right; rfl)
theorem rm_cases {S : St} {x : Int} : ((rmS S x).2.2 ≠ 0 ∧ (rmS S x).1 = S ∧ (rmS S x).2.1 = []) ∨ (rmS S x = ((⟨S.ts.map (rmT x), S.gone ++ [x]⟩ : St), rmL S x, (0 : Int))) := by
  unfold rmS
  repeat' split
  all_goals first | (left; exact ⟨by simp, rfl, rfl⟩) | (right; rfl)
theorem rn_cases {S : St} {i : Int} : ((rnS S i).2 ≠ 0 ∧ (rnS S i).1 = S) ∨ (rnS S i = ((⟨S.ts.set i.toNat (rnT S (S.th i)), S.gone⟩ : St), (0 : Int))) := by
  unfold rnS
  repeat' split
  all_goals first | (left; exact ⟨by simp, rfl⟩) | (right; rfl)
section
variable {g : Nat} {S : St} {M : Nat → Option Obj} {K X Y : List Atom} {R : Ending → Hp → Prop}
theorem r_Make (hb : Rb g S M K Y) (hok : okS S) (hK : ∀ a ∈ K, a ∈ X) {fv pv : Value} {f p : List Int} (hf : IntsAt ⟨M, K⟩ fv f) (hp : IntsAt ⟨M, K⟩ pv p)
    (hR : ∀ Y', Rb g (mkS S f p).1 M K Y' → R (.returned (.tuple #[.int .i64 (mkS S f p).2.1, .int .i64 (mkS S f p).2.2])) ⟨M, Y' ++ X⟩) : ACalls Try.prog 45 [ptr g, .agg #[fv, pv]] ⟨M, Y ++ X⟩ R := by
  obtain ⟨tv, bv, uv, gv, ts, N, hS, hV, h3, rfl⟩ := hb
  have hgl := gone_len hok
  have hgone : S.gone = (stOf ts S.gone).gone := rfl
  generalize S.gone = gone at *
  subst hS
  have hle : ∀ a ∈ K, a ∈ N ++ X := fun a ha => List.mem_append_right _ (hK a ha)
  rw [List.append_assoc]
  refine c_Make26r g tv bv uv gv ts gone fv pv f p M _ hV (fun x hx => (h3 x hx).mono (hle_sub fun a ha => (List.mem_append.1 ha).elim (fun h => List.mem_append_left _ h) (hle a))) hok hgl (hf.mono (hle_sub hle)) (hp.mono (hle_sub hle)) _ (fun he => ?_) (fun he tv' bv' uv' x ht hxf hxp hxb hV' => ?_)
  · rcases mk_cases (S := stOf ts gone) (f := f) (p := p) with ⟨_, e1, e2⟩ | e
    · have := hR (rfA g tv bv uv gv ts gone ++ N)
      rw [e1, e2, List.append_assoc] at this
      exact this ⟨tv, bv, uv, gv, ts, N, rfl, hV, h3, rfl⟩
    · rw [e] at he; exact absurd rfl he
  · rcases mk_cases (S := stOf ts gone) (f := f) (p := p) with ⟨e, _⟩ | e
    · exact absurd he e
    · have := hR (rfA g tv' bv' uv' gv (ts ++ [x]) gone ++ (.row x.bv 3 1 (ints x.t.b) :: N))
      rw [e, List.append_assoc] at this
      have hn : ((stOf ts gone).ts.length : Int) = ts.length := by simp [stOf]
      simp only [hn] at this
      refine this ⟨tv', bv', uv', gv, ts ++ [x], .row x.bv 3 1 (ints x.t.b) :: N, ?_, hV', fun y hy => ?_, rfl⟩
      · simp only [stOf, List.map_append, List.map_cons, List.map_nil, ht]
      · rcases List.mem_append.1 hy with hy | hy
        · exact (h3 y hy).mono (hle_pre [_] _)
        · rw [List.mem_singleton.1 hy]
          refine ⟨?_, ?_, readsRow (e := 3) List.mem_cons_self hxb⟩
          · rw [hxf, show x.t.f = f by rw [ht]]; exact (hf.mono (hle_pre (.row x.bv 3 1 (ints x.t.b) :: N) K)).reads
          · rw [hxp, show x.t.p = p by rw [ht]]; exact (hp.mono (hle_pre (.row x.bv 3 1 (ints x.t.b) :: N) K)).reads
theorem r_Remove (hb : Rb g S M K Y) (hok : okS S) (hK : ∀ a ∈ K, a ∈ X) {x : Int}
    (hR : ∀ Y' s, RowVal s 1 (ints (rmS S x).2.1) → Rb g (rmS S x).1 M K Y' → R (.returned (.tuple #[s, .int .i64 (rmS S x).2.2])) ⟨M, .row s 3 1 (ints (rmS S x).2.1) :: (Y' ++ X)⟩) : ACalls Try.prog 43 [ptr g, .int .i64 x] ⟨M, Y ++ X⟩ R := by
  obtain ⟨tv, bv, uv, gv, ts, N, hS, hV, h3, rfl⟩ := hb
  have hgl := gone_len hok
  generalize S.gone = gone at *
  subst hS
  have hle : ∀ a ∈ K, a ∈ N ++ X := fun a ha => List.mem_append_right _ (hK a ha)
  rw [List.append_assoc]
  refine ACalls.weakR (c_Remove26r g tv bv uv gv ts gone x M _ hV (fun x hx => (h3 x hx).mono (hle_sub fun a ha => (List.mem_append.1 ha).elim (fun h => List.mem_append_left _ h) (hle a))) hok hgl _ (fun he => ?_) (fun he s gv' hs hV' => ?_))
  · rcases rm_cases (S := stOf ts gone) (x := x) with ⟨_, e1, e2⟩ | e
    · have := hR (rfA g tv bv uv gv ts gone ++ N) (.slice none 0 0)
      rw [e1, e2, List.append_assoc] at this
      exact ⟨_, weakNil _ 3 1, this (.inl ⟨rfl, rfl⟩) ⟨tv, bv, uv, gv, ts, N, rfl, hV, h3, rfl⟩⟩
    · rw [e] at he; exact absurd rfl he
  · rcases rm_cases (S := stOf ts gone) (x := x) with ⟨e, _⟩ | e
    · exact absurd he e
    · have := hR (rfA g tv bv uv gv' (ts.map (rmV x)) (gone ++ [x]) ++ N) s
      rw [e, List.append_assoc] at this
      refine ⟨_, ?_, this hs ⟨tv, bv, uv, gv', ts.map (rmV x), N, ?_, hV', fun y hy => ?_, rfl⟩⟩
      · exact Weak.perm List.perm_middle
      · simp only [stOf, List.map_map]; rfl
      · obtain ⟨z, hz, rfl⟩ := List.mem_map.1 hy
        have hz := h3 z hz
        unfold rmV rmT
        split <;> exact ⟨hz.f, hz.p, hz.b⟩
theorem r_Renew (hb : Rb g S M K Y) (hok : okS S) (hK : ∀ a ∈ K, a ∈ X) {i : Int}
    (hR : ∀ Y', Rb g (rnS S i).1 M K Y' → R (.returned (.int .i64 (rnS S i).2)) ⟨M, Y' ++ X⟩) : ACalls Try.prog 44 [ptr g, .int .i64 i] ⟨M, Y ++ X⟩ R := by
  obtain ⟨tv, bv, uv, gv, ts, N, hS, hV, h3, rfl⟩ := hb
  have hgl := gone_len hok
  generalize S.gone = gone at *
  subst hS
  have hle : ∀ a ∈ K, a ∈ N ++ X := fun a ha => List.mem_append_right _ (hK a ha)
  rw [List.append_assoc]
  refine c_Renew26r g tv bv uv gv ts gone i M _ hV (fun x hx => (h3 x hx).mono (hle_sub fun a ha => (List.mem_append.1 ha).elim (fun h => List.mem_append_left _ h) (hle a))) hok hgl _ (fun he => ?_) (fun he k hk x hi ht hxf hxp hxb hV' => ?_)
  · rcases rn_cases (S := stOf ts gone) (i := i) with ⟨_, e1⟩ | e
    · have := hR (rfA g tv bv uv gv ts gone ++ N)
      rw [e1, List.append_assoc] at this
      exact this ⟨tv, bv, uv, gv, ts, N, rfl, hV, h3, rfl⟩
    · rw [e] at he; exact absurd rfl he
  · subst hi
    rcases rn_cases (S := stOf ts gone) (i := (k : Int)) with ⟨e, _⟩ | e
    · exact absurd he e
    · have := hR (rfA g tv bv uv gv (ts.set k x) gone ++ (.row x.pv 3 1 (ints x.t.p) :: .row x.bv 3 1 (ints x.t.b) :: N))
      rw [e, List.append_assoc] at this
      refine this ⟨tv, bv, uv, gv, ts.set k x, _, ?_, hV', fun y hy => ?_, rfl⟩
      · simp only [stOf, List.map_set, ht]
        rw [show ((k : Int)).toNat = k from rfl]
        congr 2
        exact congrArg (rnT _) (th_at hk)
      · have hsub : HLe ⟨M, N ++ K⟩ ⟨M, (.row x.pv 3 1 (ints x.t.p) :: .row x.bv 3 1 (ints x.t.b) :: N) ++ K⟩ := hle_pre [_, _] (N ++ K)
        rcases List.mem_or_eq_of_mem_set hy with hy | hy
        · exact (h3 y hy).mono hsub
        · subst hy
          have := (h3 _ (List.getElem_mem hk)).mono hsub
          refine ⟨?_, readsRow (e := 3) (by simp) hxp, readsRow (e := 3) (by simp) hxb⟩
          have e : y.t.f = ts[k].t.f := by rw [ht]; rfl
          rw [hxf, e]
          exact this.f
theorem r_Do (hb : Rb g S M K Y) (hok : okS S) (hK : ∀ a ∈ K, a ∈ X) {x : AV} (hf : IntsAt ⟨M, K⟩ x.fv x.a.f) (hp : IntsAt ⟨M, K⟩ x.pv x.a.p)
    (hR : ∀ Y' s, RowVal s 1 (ints (doS S x.a).2.2.1) → Rb g (doS S x.a).1 M K Y' → R (.returned (.tuple #[.int .i64 (doS S x.a).2.1, s, .int .i64 (doS S x.a).2.2.2])) ⟨M, .row s 3 1 (ints (doS S x.a).2.2.1) :: (Y' ++ X)⟩) :
    ACalls Try.prog 25 [ptr g, av x] ⟨M, Y ++ X⟩ R := by
  obtain ⟨pf, cf, ef, _⟩ := hf.open
  obtain ⟨pp, cp, ep, _⟩ := hp.open
  obtain ⟨fv, pv, a⟩ := x
  simp only at ef ep hf hp
  subst ef ep
  unfold doS at hR
  refine acalls_code hT Try.func25 rfl rfl ?_
  conv => whnf
  intro g3
  conv => whnf
  have hK' : ∀ b ∈ K, b ∈ .cells g3 42 [.int .i64 a.k, .int .i64 a.n, .slice pf a.f.length cf, .slice pp a.p.length cp] :: X := fun b hb => List.mem_cons_of_mem _ (hK b hb)
  refine ldS 0 rfl rfl ?_
  conv => whnf
  refine ifC_dec (fun h1 => ?_) (fun h1 => ?_)
  · rw [if_pos h1] at hR
    conv => whnf
    refine ldS 0 rfl rfl ?_
    conv => whnf
    refine ACalls.weak (Weak.perm List.perm_middle.symm) (r_Remove hb hok hK' fun Y' s hs hB => ?_)
    obtain ⟨s1, s2, s3, rfl⟩ := hs.slice
    conv => whnf
    refine ⟨rfl, ?_⟩
    conv => whnf
    refine fin ?_ (hR Y' _ hs hB)
    exact Weak.cons ((Weak.perm List.perm_middle).trans (Weak.drop _ _ _))
  · rw [if_neg h1] at hR
    conv => whnf
    refine ldS 0 rfl rfl ?_
    conv => whnf
    refine ifC_dec (fun h2 => ?_) (fun h2 => ?_)
    · rw [if_pos h2] at hR
      conv => whnf
      refine ldS 0 rfl rfl ?_
      conv => whnf
      refine ACalls.weak (Weak.perm List.perm_middle.symm) (r_Renew hb hok hK' fun Y' hB => ?_)
      conv => whnf
      refine ⟨rfl, ?_⟩
      conv => whnf
      refine fin ?_ (hR Y' (.slice none 0 0) (.inl ⟨rfl, rfl⟩) hB)
      exact ((Weak.perm List.perm_middle).trans (Weak.drop _ _ _)).trans (weakNil _ 3 1)
    · rw [if_neg h2] at hR
      conv => whnf
      refine ldP 0 rfl rfl rfl ?_
      conv => whnf
      refine ACalls.weak (Weak.perm List.perm_middle.symm) (r_Make hb hok hK' hf hp fun Y' hB => ?_)
      conv => whnf
      refine ⟨rfl, ?_⟩
      conv => whnf
      refine fin ?_ (hR Y' (.slice none 0 0) (.inl ⟨rfl, rfl⟩) hB)
      exact ((Weak.perm List.perm_middle).trans (Weak.drop _ _ _)).trans (weakNil _ 3 1)
end

/-! ### agree -/
theorem c_base26 (g : Nat) (tv : Value) (r : Nat) (ts : List TV) (gone : List Int) (H : Hp) (hb : CbAt H g tv r ts gone) (hok : okS (stOf ts gone)) {i : Int} {v : Value} {want : List Int} {u : Bool} (hv : IntsAt H v want) (R : Ending → Hp → Prop)
    (hR : R (.returned (.bool (baseB (stOf ts gone) i want u))) H) : ACalls Try.prog 21 [ptr g, .int .i64 i, v, .bool u] H R := by
  have hsn : (stOf ts gone).ts.length = ts.length := by simp [stOf]
  refine acalls_code hT Try.func21 rfl rfl ?_
  conv => whnf
  refine c_Depends g tv r ts gone i _ hb hok.ts.1 _ (fun hi => ?_) (fun hi v' hv' => ?_)
  · conv => whnf
    refine ⟨rfl, ?_⟩
    conv => whnf
    have e : baseB (stOf ts gone) i want u = false := decide_eq_false (fun h => hi ⟨h.1, by have := h.2.1; rw [hsn] at this; exact this⟩)
    rw [e] at hR
    exact fin (Weak.refl _) hR
  · have hbb := hok.bb hi.1 (by rw [hsn]; exact hi.2)
    have hinc := (hok.th _ _ (St.th_some hi.1 (by rw [hsn]; exact hi.2))).b
    have hlen : ((stOf ts gone).th i).b.length ≤ 65536 := inc_len hinc hbb
    conv => whnf
    by_cases hu : (((stOf ts gone).th i).u == u) = true
    · rw [hu]
      conv => whnf
      refine c_SameInts v' v ((stOf ts gone).th i).b want _ ⟨readsRow (e := 3) List.mem_cons_self hv', fun x hx => by have := hbb x hx; omega, by omega⟩ (hv.mono (HLe.cons H _)) _ ?_
      conv => whnf
      refine ⟨rfl, ?_⟩
      conv => whnf
      have e : baseB (stOf ts gone) i want u = decide (((stOf ts gone).th i).b = want) := by
        unfold baseB
        have hu' : ((stOf ts gone).th i).u = u := by simpa using hu
        rw [hsn]
        by_cases h : ((stOf ts gone).th i).b = want <;> simp [h, hi, hu']
      rw [e] at hR
      exact fin (weakK 1 rfl) hR
    · have hu2 : (((stOf ts gone).th i).u == u) = false := by simpa using hu
      rw [hu2]
      conv => whnf
      refine ⟨rfl, ?_⟩
      conv => whnf
      rw [show baseB (stOf ts gone) i want u = false from decide_eq_false (fun h => hu (by rw [h.2.2.1]; cases u <;> rfl))] at hR
      exact fin (weakK 1 rfl) hR
theorem c_agree (g : Nat) (tv : Value) (r : Nat) (ts : List TV) (g' : Nat) (tv' bv' uv' gv' : Value) (ts' : List TV) (gone : List Int) (H : Hp) (hb : CbAt H g tv r ts gone) (hc : RfAt H g' tv' bv' uv' gv' ts' gone) (hok : okS (stOf ts gone)) (he : stOf ts gone = stOf ts' gone) (R : Ending → Hp → Prop)
    (hR : R (.returned (.bool true)) H) : ACalls Try.prog 26 [ptr g, ptr g'] H R := by
  have hok' := hok
  rw [he] at hok'
  have hl : ts.length = ts'.length := by have := congrArg (fun S : St => S.ts.length) he; simpa [stOf] using this
  have hsn : (stOf ts gone).ts.length = ts.length := by simp [stOf]
  have hn := hok'.ts.1.n
  obtain ⟨pt, ct, rfl, _⟩ := rtAt hc.t
  obtain ⟨pb, cb, rfl, hcb⟩ := rbAt hc.b
  obtain ⟨pu, cu, rfl, hcu⟩ := ruAt hc.u
  refine acalls_code hT Try.func26 rfl rfl ?_
  conv => whnf
  refine awp_loopL hT 62 [0, 1, 5] (fun m vs H' => ∃ k : Nat, vs = [ptr g, ptr g', .int .i64 k] ∧ m + k = ts'.length ∧ H' = H) ts'.length rfl rfl (Weak.refl _) ⟨0, rfl, rfl, rfl⟩ ?_
  rintro m u vs H' ⟨k, rfl, hk, rfl⟩
  conv => whnf
  refine ⟨_, hc.h 0 _ rfl, ?_⟩
  conv => whnf
  refine ifC_dec (fun h1 => ?_) (fun h1 => ?_)
  · have hkl : k < ts'.length := by omega
    obtain ⟨gb, ob, rfl, hcellb⟩ := hcb k hkl
    obtain ⟨gu, ou, rfl, hcellu⟩ := hcu k hkl
    have hmem := List.getElem_mem hkl
    have hth : (stOf ts gone).th k = ts'[k].t := by rw [he, th_at hkl]
    conv => whnf
    refine awp_drawQ hT hM 18 (by kernel_rfl) ?_
    conv => whnf
    refine ⟨_, hc.h 1 _ rfl, ?_⟩
    conv => whnf
    refine ⟨gb, ob, rfl, by omega, ?_⟩
    conv => whnf
    refine ⟨_, hcellb, ?_⟩
    conv => whnf
    refine ⟨_, hc.h 2 _ rfl, ?_⟩
    conv => whnf
    refine ⟨gu, ou, rfl, by omega, ?_⟩
    conv => whnf
    refine ⟨_, hcellu, ?_⟩
    conv => whnf
    have hbb := hok'.ts.1.bb _ hmem
    have hbl := hok'.ts.1.b _ hmem
    refine c_base26 g tv r ts gone _ hb hok (want := ts'[k].t.b) ⟨(hc.l _ hmem).b, fun x hx => by have := hbb x hx; omega, by omega⟩ _ ⟨Weak.refl _, ?_⟩
    rw [show baseB (stOf ts gone) k ts'[k].t.b ts'[k].t.u = true from decide_eq_true ⟨by omega, by rw [hsn]; omega, by rw [hth], by rw [hth]⟩]
    conv => whnf
    repeat (refine ⟨_, wi (by omega), ?_⟩; conv => whnf)
    exact ⟨rfl, rfl, m - 1, _, by omega, Weak.refl _, k + 1, rfl, by omega, rfl⟩
  · conv => whnf
    refine ⟨_, hc.h 0 _ rfl, ?_⟩
    conv => whnf
    refine c_Depends g tv r ts gone _ _ hb hok.ts.1 _ (fun _ => ?_) (fun hi => absurd hi (by omega))
    conv => whnf
    refine c_Depends g tv r ts gone _ _ hb hok.ts.1 _ (fun _ => ?_) (fun hi => absurd hi (by omega))
    conv => whnf
    refine ⟨rfl, ?_⟩
    conv => whnf
    exact fin (Weak.refl _) hR

/-! ### Copy -/
theorem c_CloneE (v : Value) (xs : List Value) (H : Hp) (hv : Reads H v 4 xs) (h1 : ∀ u ∈ xs, u.oneCell' = true) (hlen : xs.length ≤ 1099511627776) (R : Ending → Hp → Prop)
    (hR : ∀ v', RowVal v' 4 xs → R (.returned v') ⟨H.M, .row v' 82 4 xs :: H.L⟩) : ACalls Try.prog 40 [v] H R := by
  obtain ⟨p, n, c, rfl, hl, hnil⟩ := reads_len hv
  refine acalls_code hT Try.func40 rfl rfl ?_
  conv => whnf
  refine ifC_cases (fun h => ?_) (fun h => ?_)
  · conv => whnf
    refine ⟨rfl, ?_⟩
    conv => whnf
    rw [hnil h] at hR
    exact fin (weakNil H 82 4) (hR _ (.inl ⟨rfl, rfl⟩))
  · conv => whnf
    intro g
    conv => whnf
    refine ⟨H.M, H.L, [], xs, ?_, h1, Weak.refl _, ?_, ?_, ?_⟩
    · exact hv.mono (HLe.cons H _)
    · simp; omega
    · simp [maxLen]; omega
    intro v' hv'
    conv => whnf
    refine ⟨rfl, ?_⟩
    conv => whnf
    exact fin (Weak.refl _) (hR v' hv')
theorem tvs_one {H : Hp} {ts : List TV} (h : ∀ x ∈ ts, ThAt H x) : ∀ u ∈ tvs ts, u.oneCell' = true := fun u hu => by
  obtain ⟨x, hx, hu⟩ := List.mem_flatMap.1 hu
  obtain ⟨_, _, _, e1⟩ := (h x hx).f.slice
  obtain ⟨_, _, _, e2⟩ := (h x hx).p.slice
  obtain ⟨_, _, _, e3⟩ := (h x hx).b.slice
  simp only [tvc, e1, e2, e3, List.mem_cons, List.not_mem_nil, or_false] at hu
  rcases hu with rfl | rfl | rfl | rfl <;> rfl
theorem c_Copy26 (g : Nat) (tv : Value) (r : Nat) (ts : List TV) (gone : List Int) (H : Hp) (hb : CbAt H g tv r ts gone) (hn : ts.length ≤ 256) (R : Ending → Hp → Prop)
    (hR : ∀ g' H', Bo g' (stOf ts gone) H.M H.L H' → R (.returned (ptr g')) H') : ACalls Try.prog 23 [ptr g] H R := by
  obtain ⟨pt, ct, rfl, _⟩ := tvsAt hb.t
  refine acalls_code hT Try.func23 rfl rfl ?_
  conv => whnf
  refine awp_draw hT hM 12 (List.range 12) (by kernel_rfl) H.M H.L [] (by rw [List.append_nil]; exact Weak.refl _) ?_
  conv => whnf
  refine ⟨_, hb.h 0 _ rfl, ?_⟩
  conv => whnf
  refine c_CloneE _ (tvs ts) _ (hb.t.mono (hle_app _ _ _)) (tvs_one hb.l) (by rw [tvs_length]; omega) _ ?_
  intro tv' htv
  obtain ⟨q1, q2, q3, rfl⟩ := htv.slice
  refine ⟨_, _ :: _, weakMid, fun _ _ h => h, ?_⟩
  conv => whnf
  refine ⟨_, hb.h 1 _ rfl, ?_⟩
  conv => whnf
  refine c_MapClone r (gmap gone) _ (by exact hb.m.mono rfl fun a ha => List.mem_append_left _ ha) _ ?_
  intro r'
  refine ⟨_, _ :: _, weakMid, fun _ _ h => h, ?_⟩
  conv => whnf
  intro g'
  conv => whnf
  refine ⟨_, Weak.refl _, ?_⟩
  conv => whnf
  refine ⟨rfl, ?_⟩
  conv => whnf
  refine fin (Weak.refl _) (hR g' _ ⟨.slice q1 q2 q3, r', ts, [], rfl, htv, fun x hx => (hb.l x hx).mono (HLe.refl _), ?_⟩)
  exact (Weak.perm List.perm_append_comm).trans (weakPull [0, 1, 0] rfl)

/-! ### A nil book -/
def nilP : Value := .pointer none
theorem n_Make (fv pv : Value) (H : Hp) (R : Ending → Hp → Prop) (hR : R (.returned (.tuple #[.int .i64 0, .int .i64 1])) H) : ACalls Try.prog 11 [nilP, .agg #[fv, pv]] H R := by
  refine acalls_code hT Try.func11 rfl rfl ?_
  conv => whnf
  intro g2
  conv => whnf
  intro g3
  conv => whnf
  refine ldS 1 rfl rfl ?_
  conv => whnf
  conv => whnf
  refine ⟨rfl, ?_⟩
  conv => whnf
  exact fin (weakK 2 rfl) hR
theorem n_Remove (x : Int) (H : Hp) (R : Ending → Hp → Prop) (hR : R (.returned (.tuple #[.slice none 0 0, .int .i64 1])) H) : ACalls Try.prog 24 [nilP, .int .i64 x] H R := by
  refine acalls_code hT Try.func24 rfl rfl ?_
  conv => whnf
  refine ⟨rfl, ?_⟩
  conv => whnf
  exact fin (Weak.refl _) hR
theorem n_Depends (x : Int) (H : Hp) (R : Ending → Hp → Prop) (hR : R (.returned (.tuple #[.slice none 0 0, .bool false, .int .i64 1])) H) : ACalls Try.prog 15 [nilP, .int .i64 x] H R := by
  refine acalls_code hT Try.func15 rfl rfl ?_
  conv => whnf
  refine ⟨rfl, ?_⟩
  conv => whnf
  exact fin (Weak.refl _) hR
theorem n_Renew (x : Int) (H : Hp) (R : Ending → Hp → Prop) (hR : R (.returned (.int .i64 1)) H) : ACalls Try.prog 19 [nilP, .int .i64 x] H R := by
  refine acalls_code hT Try.func19 rfl rfl ?_
  conv => whnf
  intro g2
  conv => whnf
  refine ldS 0 rfl rfl ?_
  conv => whnf
  conv => whnf
  refine ⟨rfl, ?_⟩
  conv => whnf
  exact fin (weakK 1 rfl) hR
theorem n_Copy (H : Hp) (R : Ending → Hp → Prop) (hR : R (.returned nilP) H) : ACalls Try.prog 23 [nilP] H R := by
  refine acalls_code hT Try.func23 rfl rfl ?_
  conv => whnf
  refine ⟨rfl, ?_⟩
  conv => whnf
  exact fin (Weak.refl _) hR
end Go.Proofs.Ytjgljgkfflojbaa.A
