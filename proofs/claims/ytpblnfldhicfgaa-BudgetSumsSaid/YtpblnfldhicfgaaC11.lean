/- BudgetOrder. -/
import Derived.Test.YtpblnfldhicfgaaC9
import Derived.Test.YtpblnfldhicfgaaC10
namespace Go.Proofs.Ytpblnfldhicfgaa.A
open Go Go.RowKit
set_option linter.unusedVariables false
set_option linter.unusedSimpArgs false
set_option maxRecDepth 20000

/-! ### Groups of pieces -/
def catT : List (List Atom) → List Atom → List Atom
  | [], t => t
  | A :: r, t => A ++ catT r t
def pullG {α : Type} : List Nat → List α → List α
  | [], L => L
  | i :: is, L => match L[i]? with
    | some a => a :: pullG is (L.eraseIdx i)
    | none => L
theorem eraseG_perm {α : Type} : ∀ {L : List α} {i : Nat} {a : α}, L[i]? = some a → L.Perm (a :: L.eraseIdx i)
  | [], i, a, h => by simp at h
  | b :: L, 0, a, h => by simp at h; subst h; exact List.Perm.refl _
  | b :: L, i + 1, a, h => ((eraseG_perm (L := L) (i := i) (a := a) (by simpa using h)).cons b).trans (List.Perm.swap ..)
theorem pullG_perm {α : Type} : ∀ (is : List Nat) (L : List α), L.Perm (pullG is L)
  | [], L => List.Perm.refl _
  | i :: is, L => by
    unfold pullG
    split
    · rename_i a ha
      exact (eraseG_perm ha).trans ((pullG_perm is (L.eraseIdx i)).cons _)
    · exact List.Perm.refl _
theorem catT_perm {Y : List Atom} {Bs Cs : List (List Atom)} (h : Bs.Perm Cs) : (catT Bs Y).Perm (catT Cs Y) := by
  induction h with
  | nil => exact List.Perm.refl _
  | cons a _ ih => exact List.Perm.append_left a ih
  | swap a b l => exact List.perm_append_comm_assoc b a (catT l Y)
  | trans _ _ h1 h2 => exact h1.trans h2
/-- Groups come first. -/
theorem weakBlk {M : Nat → Option Obj} (Bs : List (List Atom)) (is : List Nat) (Y : List Atom) {L : List Atom} (h : catT (pullG is Bs) Y = L) : Weak ⟨M, catT Bs Y⟩ ⟨M, L⟩ := by
  subst h; exact Weak.perm (catT_perm (pullG_perm is Bs))
theorem acv_cost {H : Hp} {g o : Nat} {c : Value × Ac} (h : CellsAt H g o (acv c)) : CellsAt H g (o + 2) c.2.cost.cs := fun j v hj => by
  rw [Nat.add_assoc]
  refine h (2 + j) v ?_
  match j, hj with
  | 0, hj => simpa [Fr.cs, acv] using hj
  | 1, hj => simpa [Fr.cs, acv] using hj
  | j + 2, hj => simp [Fr.cs] at hj
theorem c_equalQ (g : Nat) (a b c d : Value) (g' : Nat) (a' b' c' d' : Value) (B B' : Bk) (H : Hp) (hB : okB B) (hB' : okB B') (hb : BkAt H g a b c d B) (hb' : BkAt H g' a' b' c' d' B') (hs : SameQ B B') (n m : Int) (hn : n = B.lim.length) (hm : m = B.most.length)
    (R : Ending → Hp → Prop) (hR : R (.returned (.bool true)) H) : ACalls Try.prog 27 [ptr g, ptr g', .int .i64 n, .int .i64 m] H R := by
  subst hn hm
  refine c_equal g a b c d g' a' b' c' d' B B' H hB hB' hb hb' (by rw [hs.lim]) (by rw [hs.most]) (fun k hk => ?_) (fun k hk => ?_) R hR
  · exact (cmpF_zero (hB.spk (by omega) (by omega)) (hB'.spk (by omega) (by rw [hs.lim]; omega))).2 (hs.sp k hk)
  · exact (cmpF_zero (hB.owedk hk) (hB'.owedk (by rw [hs.most]; exact hk))).2 (hs.owed k hk)

set_option maxHeartbeats 8000000 in
theorem c_BudgetOrder (v vs' vm vn : Value) (l s m' n' : List Int) (cost other : Int) (H : Hp) (hv : IntsAt H v l) (hs : IntsAt H vs' s) (hvm : IntsAt H vm m') (hvn : IntsAt H vn n') (hc : I64 cost) (hd : I64 other) (R : Ending → Hp → Prop) (hR : ∀ H', R (.returned (.bool true)) H') :
    ACalls Try.prog 7 [v, vs', vm, vn, .int .i64 cost, .int .i64 other] H R := by
  refine acalls_code hT Try.func7 rfl rfl ?_
  conv => whnf
  refine c_begun v l _ hv _ ?_
  intro g a b c d g' a' b' c' d' e' f' hV hV'
  have hB0 := begB_ok l
  have hn := begB_n l
  have hm := begB_m l
  have bn := bgN_bd l
  have bm := bgM_bd l
  have hG := beg_grid l
  generalize begB l = B0 at *
  have l1 := hB0.l1; have l4 := hB0.l4
  conv => whnf
  have hle1 : HLe H ⟨H.M, bkA g a b c d B0 ++ (rbA g' a' b' c' d' e' f' B0 ++ H.L)⟩ := (hle_pre (rbA g' a' b' c' d' e' f' B0) _).trans (hle_pre (bkA g a b c d B0) _)
  have hr0 : RbAt ⟨H.M, rbA g' a' b' c' d' e' f' B0⟩ g' a' b' c' d' e' f' B0 := rbIn hV' fun a ha => ha
  obtain ⟨pb, cb, rfl, _⟩ := frsAt hr0.b
  obtain ⟨pf, cf, rfl, _⟩ := frsAt hr0.f
  have hr := fun (L : List Atom) h => hr0.mono (hle_sub (L' := L) h)
  refine ⟨_, (hr _ (fun a ha => by simp [ha])).h 1 _ rfl, ?_⟩
  conv => whnf
  refine c_Script vs' s B0.sp.length _ (hs.mono hle1) (by omega) _ ?_
  intro v' cs hcs hrow hv'
  have hlen : cs.length ≤ 20 := by
    have := congrArg List.length hcs
    rw [List.length_map] at this
    rw [this]; exact script_length _ _
  have hS : Scr cs := ⟨hrow, map_ok hcs (script_ok (by omega)), by omega⟩
  have hScr : ∀ c ∈ cs, acScr c.2 := fun c hc => script_scr _ (hcs ▸ List.mem_map.2 ⟨c, hc, rfl⟩)
  obtain ⟨v4, v5, rfl, _⟩ := acsAt (H := ⟨H.M, [.row v' 50 4 (acs cs)]⟩) (readsRow List.mem_cons_self hv')
  conv => whnf
  refine awp_loopL hT 244 [2, 3, 4, 5, 13, 14, 15, 16] (fun n vs Hx => ∃ (k : Nat) (a b c d : Value) (B : Bk), vs = [vm, vn, .int .i64 cost, .int .i64 other, ptr g, ptr g', .slice v4 cs.length v5, .int .i64 k] ∧ n + k = cs.length ∧ okB B ∧ BkV a b c d B ∧ GridB (432 * k) B ∧ B.lim = B0.lim ∧ B.most = B0.most ∧
    Hx = ⟨H.M, bkA g a b c d B ++ (rbA g' a' (.slice pb B0.sp.length cb) c' d' e' (.slice pf B0.owed.length cf) B0 ++ (scA (.slice v4 cs.length v5) cs ++ H.L))⟩) cs.length rfl rfl
    (Weak.perm (permBegin (X := scA _ cs))) ⟨0, a, b, c, d, B0, rfl, rfl, hB0, hV, hG.mono (by omega), rfl, rfl, rfl⟩ ?_
  clear hV hV' hB0 hG hv hs
  rintro n u vs Hx ⟨k, a, b, c, d, B, rfl, hk, hB, hV, hG, hlim, hmost, rfl⟩
  have hl2 : B.lim.length = B0.lim.length := by rw [hlim]
  have hm2 : B.most.length = B0.most.length := by rw [hmost]
  conv => whnf
  refine ifC_dec (fun h1 => ?_) (fun h1 => ?_)
  · have hkd : k < cs.length := by omega
    have hread : ∀ L, (∀ a ∈ scA (.slice v4 cs.length v5) cs, a ∈ L) → Reads ⟨H.M, L⟩ (.slice v4 cs.length v5) 4 (acs cs) := fun L h => readsRow (e := 50) (h _ (by simp [scA])) hv'
    obtain ⟨q1, q2, eq, hcell⟩ := acsAt (hread (scA (.slice v4 cs.length v5) cs) (fun a ha => ha))
    obtain ⟨gq, oq, e3, hcel⟩ := hcell k hkd
    cases eq
    subst e3
    clear hcell hread
    conv => whnf
    refine ⟨gq, oq, rfl, by omega, ?_⟩
    conv => whnf
    refine ⟨_, rfl, hcel.mono (hle_sub fun a ha => by simp [ha]), ?_⟩
    conv => whnf
    have hokx := hS.ok _ (List.getElem_mem hkd)
    have hsx := hScr _ (List.getElem_mem hkd)
    have hnx := hokx.n
    refine c_act g a b c d B cs[k].1 cs[k].2 H.M _ hB hV (hS.ints hkd (fun a ha => by simp [scA, ha])) (by omega) hokx.I _ fun a2 b2 c2 d2 hV2 => ?_
    have hkp := act_kept (x := cs[k].2) hB
    have hB' := hB.act cs[k].2
    have hG' := act_grid hB hG hsx (by omega)
    have hlim' := hkp.2.lim.trans hlim
    have hmost' := hkp.2.most.trans hmost
    conv => whnf
    repeat (refine ⟨_, wi (by omega), ?_⟩; conv => whnf)
    exact ⟨rfl, rfl, n - 1, _, by omega, Weak.refl _, k + 1, a2, b2, c2, d2, _, rfl, by omega, hB', hV2, hG'.mono (by omega), hlim', hmost', rfl⟩
  · conv => whnf
    refine ⟨_, (hr _ (fun a ha => by simp [ha])).h 1 _ rfl, ?_⟩
    conv => whnf
    refine c_Script vm m' B0.sp.length _ (hvm.mono (hle_sub fun a ha => by simp [ha])) (by omega) _ ?_
    intro w1 xs hxs hrow1 hw1
    have hS1 : Scr xs := ⟨hrow1, map_ok hxs (script_ok (by omega)), by
      have := congrArg List.length hxs
      rw [List.length_map] at this
      have := script_length m' B0.sp.length
      omega⟩
    have hScr1 : ∀ c ∈ xs, acScr c.2 := fun c hc => script_scr _ (hxs ▸ List.mem_map.2 ⟨c, hc, rfl⟩)
    obtain ⟨x4, x5, rfl, _⟩ := acsAt (H := ⟨H.M, [.row w1 50 4 (acs xs)]⟩) (readsRow List.mem_cons_self hw1)
    conv => whnf
    refine ⟨_, (hr _ (fun a ha => by simp [ha])).h 1 _ rfl, ?_⟩
    conv => whnf
    refine c_Script vn n' B0.sp.length _ (hvn.mono (hle_sub fun a ha => by simp [ha])) (by omega) _ ?_
    intro w2 ys hys hrow2 hw2
    have hS2 : Scr ys := ⟨hrow2, map_ok hys (script_ok (by omega)), by
      have := congrArg List.length hys
      rw [List.length_map] at this
      have := script_length n' B0.sp.length
      omega⟩
    have hScr2 : ∀ c ∈ ys, acScr c.2 := fun c hc => script_scr _ (hys ▸ List.mem_map.2 ⟨c, hc, rfl⟩)
    obtain ⟨y4, y5, rfl, _⟩ := acsAt (H := ⟨H.M, [.row w2 50 4 (acs ys)]⟩) (readsRow List.mem_cons_self hw2)
    conv => whnf
    refine ifC_dec (fun h2 => ?_) (fun h2 => ?_)
    · conv => whnf
      refine c_lives _ _ ?_
      conv => whnf
      refine ⟨rfl, ?_⟩
      conv => whnf
      exact fin (Weak.refl _) (hR _)
    · conv => whnf
      refine ifC_dec (fun h3 => ?_) (fun h3 => ?_)
      · conv => whnf
        refine c_lives _ _ ?_
        conv => whnf
        refine ⟨rfl, ?_⟩
        conv => whnf
        exact fin (Weak.refl _) (hR _)
      · have hx0 : 0 < xs.length := by omega
        have hy0 : 0 < ys.length := by omega
        conv => whnf
        refine c_Copy g a b c d B _ hB (bkIn hV fun a ha => by simp [ha]) _ ?_
        intro g1 a1 b1 c1 d1 hV1
        conv => whnf
        refine c_Copy g a b c d B _ hB (bkIn hV fun a ha => by simp [ha]) _ ?_
        intro g2 a2 b2 c2 d2 hV2
        conv => whnf
        refine c_Copy g a b c d B _ hB (bkIn hV fun a ha => by simp [ha]) _ ?_
        intro g3 a3 b3 c3 d3 hV3
        conv => whnf
        refine c_Copy g a b c d B _ hB (bkIn hV fun a ha => by simp [ha]) _ ?_
        intro g4 a4 b4 c4 d4 hV4
        conv => whnf
        obtain ⟨Y, eY⟩ : ∃ Y, Y = scA (.slice y4 ys.length y5) ys ++ (scA (.slice x4 xs.length x5) xs ++ (bkA g a b c d B ++ (rbA g' a' (.slice pb B0.sp.length cb) c' d' e' (.slice pf B0.owed.length cf) B0 ++ (scA (.slice v4 cs.length v5) cs ++ H.L)))) := ⟨_, rfl⟩
        refine AWp.weak (H1 := ⟨H.M, bkA g4 a4 b4 c4 d4 B ++ (bkA g3 a3 b3 c3 d3 B ++ (bkA g2 a2 b2 c2 d2 B ++ (bkA g1 a1 b1 c1 d1 B ++ Y)))⟩) (by rw [eY]; exact Weak.refl _) ?_
        have hrx : Reads ⟨H.M, scA (.slice x4 xs.length x5) xs⟩ (.slice x4 xs.length x5) 4 (acs xs) := readsRow (e := 50) (by simp [scA]) hw1
        obtain ⟨q1, q2, eq, hcx⟩ := acsAt hrx
        obtain ⟨gx, ox, e3, kcx⟩ := hcx 0 hx0
        cases eq
        subst e3
        have hry : Reads ⟨H.M, scA (.slice y4 ys.length y5) ys⟩ (.slice y4 ys.length y5) 4 (acs ys) := readsRow (e := 50) (by simp [scA]) hw2
        obtain ⟨q1, q2, eq, hcy⟩ := acsAt hry
        obtain ⟨gy, oy, e3, kcy⟩ := hcy 0 hy0
        cases eq
        subst e3
        have hcx := fun (L : List Atom) (h : ∀ a ∈ Y, a ∈ L) => kcx.mono (hle_sub (L' := L) fun a ha => h a (by rw [eY]; simp [ha]))
        have hcy := fun (L : List Atom) (h : ∀ a ∈ Y, a ∈ L) => kcy.mono (hle_sub (L' := L) fun a ha => h a (by rw [eY]; simp [ha]))
        have hix := fun (L : List Atom) (h : ∀ a ∈ Y, a ∈ L) => hS1.ints hx0 (H := ⟨H.M, L⟩) fun a ha => h a (by rw [eY]; simp [scA, ha])
        have hiy := fun (L : List Atom) (h : ∀ a ∈ Y, a ∈ L) => hS2.ints hy0 (H := ⟨H.M, L⟩) fun a ha => h a (by rw [eY]; simp [scA, ha])
        have hr := fun (L : List Atom) (h : ∀ a ∈ Y, a ∈ L) => hr L fun a ha => h a (by rw [eY]; simp [ha])
        have sx := hScr1 _ (List.getElem_mem hx0)
        have sy := hScr2 _ (List.getElem_mem hy0)
        clear kcx kcy hr0 hle1 hv' hrow hS hScr hcs hrow1 hrow2 hw1 hw2 hS1 hS2 hScr1 hScr2 hxs hys hrx hry eY
        generalize xs[0] = x at *
        generalize ys[0] = y at *
        have nx := sx.n; have ny := sy.n
        have Cx := sx.c.mono (show (72 : Int) ≤ 144 by omega)
        have Cy := sy.c.mono (show (72 : Int) ≤ 144 by omega)
        have lx := fun L h => (hix L h).len
        -- the first two
        refine AWp.weak (weakBlk [_, _, _, _] [3] Y (L := bkA g1 a1 b1 c1 d1 B ++ (bkA g4 a4 b4 c4 d4 B ++ (bkA g3 a3 b3 c3 d3 B ++ (bkA g2 a2 b2 c2 d2 B ++ Y)))) rfl) ?_
        have hGk := hG.mono (show 432 * (k : Int) ≤ 8640 by omega)
        have ho := order hB hGk Cx Cy nx ny (by omega)
        have ho2 := order hB hGk Cy Cx ny nx (by omega)
        have hiff : ((askB B x.2.ps x.2.cost).2 = 0 ∧ (askB (askB B x.2.ps x.2.cost).1 y.2.ps y.2.cost).2 = 0) ↔ ((askB B y.2.ps y.2.cost).2 = 0 ∧ (askB (askB B y.2.ps y.2.cost).1 x.2.ps x.2.cost).2 = 0) := ⟨fun h => (ho h).1, fun h => (ho2 h).1⟩
        have hBx := hB.ask x.2.ps x.2.cost
        have hBy := hB.ask y.2.ps y.2.cost
        have hBxy := hBx.ask y.2.ps y.2.cost
        have hByx := hBy.ask x.2.ps x.2.cost
        have hxyl : (askB (askB B x.2.ps x.2.cost).1 y.2.ps y.2.cost).1.lim.length = B.lim.length := by rw [(ask_kept hBx).2.lim, (ask_kept hB).2.lim]
        have hxym : (askB (askB B x.2.ps x.2.cost).1 y.2.ps y.2.cost).1.most.length = B.most.length := by rw [(ask_kept hBx).2.most, (ask_kept hB).2.most]
        refine awp_draw hT hM 10 (List.range 10) (by kernel_rfl) H.M _ _ (Weak.perm List.perm_append_comm) ?_
        conv => whnf
        refine ⟨gx, ox, rfl, by omega, ?_⟩
        conv => whnf
        refine ⟨_, hcx _ (fun a ha => by simp [ha]) 1 _ rfl, ?_⟩
        conv => whnf
        refine ⟨gx, ox, rfl, by omega, ?_⟩
        conv => whnf
        refine ⟨_, rfl, acv_cost (hcx _ (fun a ha => by simp [ha])), ?_⟩
        conv => whnf
        refine ACalls.weak (Weak.perm List.perm_append_comm) (c_Ask g1 a1 b1 c1 d1 B x.1 x.2.ps x.2.cost H.M _ hB hV1 (hix _ (fun a ha => by simp [ha])) (by omega) Cx.ok.1.I _ fun a5 b5 c5 d5 hV5 => ?_)
        refine ⟨_, bkA g1 a5 b5 c5 d5 _, Weak.perm List.perm_append_comm, fun _ _ h => h, ?_⟩
        conv => whnf
        refine ⟨_, Weak.perm List.perm_append_comm, ?_⟩
        conv => whnf
        refine awp_draw hT hM 10 (List.range 10) (by kernel_rfl) H.M _ _ (Weak.perm List.perm_append_comm) ?_
        conv => whnf
        refine ⟨gy, oy, rfl, by omega, ?_⟩
        conv => whnf
        refine ⟨_, hcy _ (fun a ha => by simp [ha]) 1 _ rfl, ?_⟩
        conv => whnf
        refine ⟨gy, oy, rfl, by omega, ?_⟩
        conv => whnf
        refine ⟨_, rfl, acv_cost (hcy _ (fun a ha => by simp [ha])), ?_⟩
        conv => whnf
        refine ACalls.weak (Weak.perm List.perm_append_comm) (c_Ask g1 a5 b5 c5 d5 _ y.1 y.2.ps y.2.cost H.M _ hBx hV5 (hiy _ (fun a ha => by simp [ha])) (by omega) Cy.ok.1.I _ fun a6 b6 c6 d6 hV6 => ?_)
        refine ⟨_, bkA g1 a6 b6 c6 d6 _, Weak.perm List.perm_append_comm, fun _ _ h => h, ?_⟩
        conv => whnf
        refine ⟨_, Weak.perm List.perm_append_comm, ?_⟩
        conv => whnf
        refine AWp.weak (weakBlk [_, _, _, _] [3] Y (L := bkA g2 a2 b2 c2 d2 B ++ (bkA g1 a6 b6 c6 d6 _ ++ (bkA g4 a4 b4 c4 d4 B ++ (bkA g3 a3 b3 c3 d3 B ++ Y)))) rfl) ?_
        refine awp_draw hT hM 10 (List.range 10) (by kernel_rfl) H.M _ _ (Weak.perm List.perm_append_comm) ?_
        conv => whnf
        refine ⟨gy, oy, rfl, by omega, ?_⟩
        conv => whnf
        refine ⟨_, hcy _ (fun a ha => by simp [ha]) 1 _ rfl, ?_⟩
        conv => whnf
        refine ⟨gy, oy, rfl, by omega, ?_⟩
        conv => whnf
        refine ⟨_, rfl, acv_cost (hcy _ (fun a ha => by simp [ha])), ?_⟩
        conv => whnf
        refine ACalls.weak (Weak.perm List.perm_append_comm) (c_Ask g2 a2 b2 c2 d2 B y.1 y.2.ps y.2.cost H.M _ hB hV2 (hiy _ (fun a ha => by simp [ha])) (by omega) Cy.ok.1.I _ fun a7 b7 c7 d7 hV7 => ?_)
        refine ⟨_, bkA g2 a7 b7 c7 d7 _, Weak.perm List.perm_append_comm, fun _ _ h => h, ?_⟩
        conv => whnf
        refine ⟨_, Weak.perm List.perm_append_comm, ?_⟩
        conv => whnf
        refine awp_draw hT hM 10 (List.range 10) (by kernel_rfl) H.M _ _ (Weak.perm List.perm_append_comm) ?_
        conv => whnf
        refine ⟨gx, ox, rfl, by omega, ?_⟩
        conv => whnf
        refine ⟨_, hcx _ (fun a ha => by simp [ha]) 1 _ rfl, ?_⟩
        conv => whnf
        refine ⟨gx, ox, rfl, by omega, ?_⟩
        conv => whnf
        refine ⟨_, rfl, acv_cost (hcx _ (fun a ha => by simp [ha])), ?_⟩
        conv => whnf
        refine ACalls.weak (Weak.perm List.perm_append_comm) (c_Ask g2 a7 b7 c7 d7 _ x.1 x.2.ps x.2.cost H.M _ hBy hV7 (hix _ (fun a ha => by simp [ha])) (by omega) Cx.ok.1.I _ fun a8 b8 c8 d8 hV8 => ?_)
        refine ⟨_, bkA g2 a8 b8 c8 d8 _, Weak.perm List.perm_append_comm, fun _ _ h => h, ?_⟩
        conv => whnf
        refine ⟨_, Weak.perm List.perm_append_comm, ?_⟩
        conv => whnf
        generalize (askB (askB B x.2.ps x.2.cost).1 y.2.ps y.2.cost).2 = f at *
        generalize (askB (askB B y.2.ps y.2.cost).1 x.2.ps x.2.cost).2 = h at *
        generalize (askB (askB B x.2.ps x.2.cost).1 y.2.ps y.2.cost).1 = Bxy at *
        generalize (askB (askB B y.2.ps y.2.cost).1 x.2.ps x.2.cost).1 = Byx at *
        generalize (askB B x.2.ps x.2.cost).2 = e at *
        generalize (askB B y.2.ps y.2.cost).2 = g0 at *
        -- the sum
        obtain ⟨hadd, Cs, hsq⟩ := (costF_12 cost).add (costF_12 other) (by omega)
        have hO := once hB hGk (costF_12 cost) (costF_12 other) Cs nx (by omega) hsq
        have okc := (costF_12 cost).ok.1
        have okd := (costF_12 other).ok.1
        have oks := Cs.ok.1
        have hB1 := hB.ask x.2.ps (costF cost)
        have hB2 := hB1.ask x.2.ps (costF other)
        have hB3 := hB.ask x.2.ps (addF (costF cost) (costF other)).1
        have hl3 : B.lim.length = B0.sp.length := by omega
        have hm3 : B.most.length = B0.owed.length := by omega
        by_cases P : e = 0 ∧ f = 0
        · obtain ⟨rfl, rfl⟩ := P
          obtain ⟨⟨rfl, rfl⟩, hsm⟩ := ho ⟨rfl, rfl⟩
          refine awp_drawQ hT hM 37 (by kernel_rfl) ?_
          conv => whnf
          refine ⟨_, (hr _ (fun a ha => by simp [ha])).h 1 _ rfl, ?_⟩
          conv => whnf
          refine ⟨_, (hr _ (fun a ha => by simp [ha])).h 5 _ rfl, ?_⟩
          conv => whnf
          refine c_equalQ g1 a6 b6 c6 d6 g2 a8 b8 c8 d8 Bxy Byx _ hBxy hByx (bkIn hV6 fun a ha => by simp [ha]) (bkIn hV8 fun a ha => by simp [ha]) hsm _ _ ?_ ?_ _ ⟨Weak.refl _, ?_⟩
          · omega
          · omega
          conv => whnf
          refine c_Cost _ hc _ _ ?_
          conv => whnf
          intro g27
          conv => whnf
          refine stC 0 rfl rfl (by first | (refine ⟨rfl, ?_⟩; repeat' (first | exact trivial | refine ⟨rfl, ?_⟩)) | simp [oneCells, Value.oneCell', setN]) ?_
          conv => whnf
          refine c_Cost _ hd _ _ ?_
          conv => whnf
          intro g28
          conv => whnf
          refine stC 0 rfl rfl (by first | (refine ⟨rfl, ?_⟩; repeat' (first | exact trivial | refine ⟨rfl, ?_⟩)) | simp [oneCells, Value.oneCell', setN]) ?_
          conv => whnf
          refine ldA 1 rfl rfl ?_
          conv => whnf
          refine ldA 0 rfl rfl ?_
          conv => whnf
          refine c_Add _ _ okc.I okd.I _ _ ?_
          rw [hadd]
          conv => whnf
          intro g29
          conv => whnf
          refine stC 0 rfl rfl (by first | (refine ⟨rfl, ?_⟩; repeat' (first | exact trivial | refine ⟨rfl, ?_⟩)) | simp [oneCells, Value.oneCell', setN]) ?_
          conv => whnf
          obtain ⟨F, eF⟩ : ∃ F, F = [frA g29 (addF (costF cost) (costF other)).1, frA g28 (costF other), frA g27 (costF cost)] := ⟨_, rfl⟩
          refine AWp.weak (H1 := ⟨H.M, bkA g4 a4 b4 c4 d4 B ++ (F ++ (bkA g3 a3 b3 c3 d3 B ++ Y))⟩) (by
            rw [eF]
            exact (weakBlk [[_, _, _], _, _, _, _] [1, 1, 1] Y (L := bkA g2 a8 b8 c8 d8 Byx ++ (bkA g1 a6 b6 c6 d6 Bxy ++ (bkA g4 a4 b4 c4 d4 B ++ (_ ++ (bkA g3 a3 b3 c3 d3 B ++ Y))))) rfl).trans ((Weak.dropAll _ _ _).trans (Weak.dropAll _ _ _))) ?_
          have hfr : ∀ (g : Nat) (q : Fr) (L : List Atom), (∀ a ∈ F, a ∈ L) → frA g q ∈ F → CellsAt ⟨H.M, L⟩ g 0 q.cs := fun g q L h hm j v hj => .inr ⟨_, h _ hm, rfl, by rw [Nat.zero_add]; exact hj⟩
          refine awp_draw hT hM 7 (List.range 7) (by kernel_rfl) H.M _ _ (Weak.perm List.perm_append_comm) ?_
          conv => whnf
          refine ⟨gx, ox, rfl, by omega, ?_⟩
          conv => whnf
          refine ⟨_, hcx _ (fun a ha => by simp [ha]) 1 _ rfl, ?_⟩
          conv => whnf
          refine ⟨_, rfl, hfr g27 (costF cost) _ (fun a ha => by simp [ha]) (by rw [eF]; simp), ?_⟩
          conv => whnf
          refine ACalls.weak (Weak.perm List.perm_append_comm) (c_Ask g4 a4 b4 c4 d4 B x.1 x.2.ps (costF cost) H.M _ hB hV4 (hix _ (fun a ha => by simp [ha])) (by omega) okc.I _ fun a5 b5 c5 d5 hV5 => ?_)
          refine ⟨_, bkA g4 a5 b5 c5 d5 _, Weak.perm List.perm_append_comm, fun _ _ h => h, ?_⟩
          conv => whnf
          refine ⟨_, Weak.perm List.perm_append_comm, ?_⟩
          conv => whnf
          refine awp_draw hT hM 7 (List.range 7) (by kernel_rfl) H.M _ _ (Weak.perm List.perm_append_comm) ?_
          conv => whnf
          refine ⟨gx, ox, rfl, by omega, ?_⟩
          conv => whnf
          refine ⟨_, hcx _ (fun a ha => by simp [ha]) 1 _ rfl, ?_⟩
          conv => whnf
          refine ⟨_, rfl, hfr g28 (costF other) _ (fun a ha => by simp [ha]) (by rw [eF]; simp), ?_⟩
          conv => whnf
          refine ACalls.weak (Weak.perm List.perm_append_comm) (c_Ask g4 a5 b5 c5 d5 _ x.1 x.2.ps (costF other) H.M _ hB1 hV5 (hix _ (fun a ha => by simp [ha])) (by omega) okd.I _ fun a7 b7 c7 d7 hV7 => ?_)
          refine ⟨_, bkA g4 a7 b7 c7 d7 _, Weak.perm List.perm_append_comm, fun _ _ h => h, ?_⟩
          conv => whnf
          refine ⟨_, Weak.perm List.perm_append_comm, ?_⟩
          conv => whnf
          refine AWp.weak (weakBlk [_, _, _] [2] Y (L := bkA g3 a3 b3 c3 d3 B ++ (bkA g4 a7 b7 c7 d7 _ ++ (F ++ Y))) rfl) ?_
          refine awp_draw hT hM 7 (List.range 7) (by kernel_rfl) H.M _ _ (Weak.perm List.perm_append_comm) ?_
          conv => whnf
          refine ⟨gx, ox, rfl, by omega, ?_⟩
          conv => whnf
          refine ⟨_, hcx _ (fun a ha => by simp [ha]) 1 _ rfl, ?_⟩
          conv => whnf
          refine ⟨_, rfl, hfr g29 ((addF (costF cost) (costF other)).1) _ (fun a ha => by simp [ha]) (by rw [eF]; simp), ?_⟩
          conv => whnf
          refine ACalls.weak (Weak.perm List.perm_append_comm) (c_Ask g3 a3 b3 c3 d3 B x.1 x.2.ps _ H.M _ hB hV3 (hix _ (fun a ha => by simp [ha])) (by omega) oks.I _ fun a9 b9 c9 d9 hV9 => ?_)
          refine ⟨_, bkA g3 a9 b9 c9 d9 _, Weak.perm List.perm_append_comm, fun _ _ h => h, ?_⟩
          conv => whnf
          refine ⟨_, Weak.perm List.perm_append_comm, ?_⟩
          conv => whnf
          have h3l : (askB B x.2.ps (addF (costF cost) (costF other)).1).1.lim.length = B.lim.length := by rw [(ask_kept hB).2.lim]
          have h3m : (askB B x.2.ps (addF (costF cost) (costF other)).1).1.most.length = B.most.length := by rw [(ask_kept hB).2.most]
          generalize (askB B x.2.ps (addF (costF cost) (costF other)).1).1 = Bo at *
          generalize (askB B x.2.ps (addF (costF cost) (costF other)).1).2 = o at *
          generalize (askB (askB B x.2.ps (costF cost)).1 x.2.ps (costF other)).1 = Bj at *
          generalize (askB (askB B x.2.ps (costF cost)).1 x.2.ps (costF other)).2 = kk at *
          generalize (askB B x.2.ps (costF cost)).2 = j at *
          by_cases ho0 : o = 0
          · have hjk := hO.1.2 ho0
            obtain ⟨hj, hkk⟩ := hjk
            subst ho0 hj hkk
            conv => whnf
            refine awp_drawQ hT hM 20 (by kernel_rfl) ?_
            conv => whnf
            refine ⟨_, (hr _ (fun a ha => by simp [ha])).h 1 _ rfl, ?_⟩
            conv => whnf
            refine ⟨_, (hr _ (fun a ha => by simp [ha])).h 5 _ rfl, ?_⟩
            conv => whnf
            refine c_equalQ g3 a9 b9 c9 d9 g4 a7 b7 c7 d7 Bo Bj _ hB3 hB2 (bkIn hV9 fun a ha => by simp [ha]) (bkIn hV7 fun a ha => by simp [ha]) (hO.2 rfl) _ _ ?_ ?_ _ ⟨Weak.refl _, ?_⟩
            · omega
            · omega
            conv => whnf
            refine c_lives _ _ ⟨Weak.refl _, ?_⟩
            conv => whnf
            refine ⟨rfl, ?_⟩
            conv => whnf
            exact fin (Weak.refl _) (hR _)
          · conv => whnf
            by_cases hj : j = 0
            · have hkk : ¬ kk = 0 := fun hkk => ho0 (hO.1.1 ⟨hj, hkk⟩)
              refine ifC_pos (hj) ?_
              conv => whnf
              rw [decide_eq_false hkk, decide_eq_false ho0]
              conv => whnf
              refine awp_drawQ hT hM 20 (by kernel_rfl) ?_
              conv => whnf
              refine ifC_pos (ho0) ?_
              conv => whnf
              refine c_lives _ _ ⟨Weak.refl _, ?_⟩
              conv => whnf
              refine ⟨rfl, ?_⟩
              conv => whnf
              exact fin (Weak.refl _) (hR _)
            · refine ifC_neg (hj) ?_
              conv => whnf
              rw [decide_eq_false ho0]
              conv => whnf
              refine awp_drawQ hT hM 20 (by kernel_rfl) ?_
              conv => whnf
              refine ifC_pos (ho0) ?_
              conv => whnf
              refine c_lives _ _ ⟨Weak.refl _, ?_⟩
              conv => whnf
              refine ⟨rfl, ?_⟩
              conv => whnf
              exact fin (Weak.refl _) (hR _)
        · have Q : ¬ (g0 = 0 ∧ h = 0) := fun q => P (hiff.2 q)
          refine awp_drawQ hT hM 37 (by kernel_rfl) ?_
          conv => whnf
          have hf : 0 = 0 := rfl
          have hh : 0 = 0 := rfl
          by_cases he : e = 0
          · have hf : ¬ f = 0 := fun hf => P ⟨he, hf⟩
            by_cases hg : g0 = 0
            · have hh : ¬ h = 0 := fun hh => Q ⟨hg, hh⟩
              conv => whnf
              repeat ((first | refine ifC_pos (by assumption) ?_ | refine ifC_neg (by assumption) ?_ | rw [decide_eq_false hf] | rw [decide_eq_false hh]); conv => whnf)
              conv => whnf
              refine c_Cost _ hc _ _ ?_
              conv => whnf
              intro g27
              conv => whnf
              refine stC 0 rfl rfl (by first | (refine ⟨rfl, ?_⟩; repeat' (first | exact trivial | refine ⟨rfl, ?_⟩)) | simp [oneCells, Value.oneCell', setN]) ?_
              conv => whnf
              refine c_Cost _ hd _ _ ?_
              conv => whnf
              intro g28
              conv => whnf
              refine stC 0 rfl rfl (by first | (refine ⟨rfl, ?_⟩; repeat' (first | exact trivial | refine ⟨rfl, ?_⟩)) | simp [oneCells, Value.oneCell', setN]) ?_
              conv => whnf
              refine ldA 1 rfl rfl ?_
              conv => whnf
              refine ldA 0 rfl rfl ?_
              conv => whnf
              refine c_Add _ _ okc.I okd.I _ _ ?_
              rw [hadd]
              conv => whnf
              intro g29
              conv => whnf
              refine stC 0 rfl rfl (by first | (refine ⟨rfl, ?_⟩; repeat' (first | exact trivial | refine ⟨rfl, ?_⟩)) | simp [oneCells, Value.oneCell', setN]) ?_
              conv => whnf
              obtain ⟨F, eF⟩ : ∃ F, F = [frA g29 (addF (costF cost) (costF other)).1, frA g28 (costF other), frA g27 (costF cost)] := ⟨_, rfl⟩
              refine AWp.weak (H1 := ⟨H.M, bkA g4 a4 b4 c4 d4 B ++ (F ++ (bkA g3 a3 b3 c3 d3 B ++ Y))⟩) (by
                rw [eF]
                exact (weakBlk [[_, _, _], _, _, _, _] [1, 1, 1] Y (L := bkA g2 a8 b8 c8 d8 Byx ++ (bkA g1 a6 b6 c6 d6 Bxy ++ (bkA g4 a4 b4 c4 d4 B ++ (_ ++ (bkA g3 a3 b3 c3 d3 B ++ Y))))) rfl).trans ((Weak.dropAll _ _ _).trans (Weak.dropAll _ _ _))) ?_
              have hfr : ∀ (g : Nat) (q : Fr) (L : List Atom), (∀ a ∈ F, a ∈ L) → frA g q ∈ F → CellsAt ⟨H.M, L⟩ g 0 q.cs := fun g q L h hm j v hj => .inr ⟨_, h _ hm, rfl, by rw [Nat.zero_add]; exact hj⟩
              refine awp_draw hT hM 7 (List.range 7) (by kernel_rfl) H.M _ _ (Weak.perm List.perm_append_comm) ?_
              conv => whnf
              refine ⟨gx, ox, rfl, by omega, ?_⟩
              conv => whnf
              refine ⟨_, hcx _ (fun a ha => by simp [ha]) 1 _ rfl, ?_⟩
              conv => whnf
              refine ⟨_, rfl, hfr g27 (costF cost) _ (fun a ha => by simp [ha]) (by rw [eF]; simp), ?_⟩
              conv => whnf
              refine ACalls.weak (Weak.perm List.perm_append_comm) (c_Ask g4 a4 b4 c4 d4 B x.1 x.2.ps (costF cost) H.M _ hB hV4 (hix _ (fun a ha => by simp [ha])) (by omega) okc.I _ fun a5 b5 c5 d5 hV5 => ?_)
              refine ⟨_, bkA g4 a5 b5 c5 d5 _, Weak.perm List.perm_append_comm, fun _ _ h => h, ?_⟩
              conv => whnf
              refine ⟨_, Weak.perm List.perm_append_comm, ?_⟩
              conv => whnf
              refine awp_draw hT hM 7 (List.range 7) (by kernel_rfl) H.M _ _ (Weak.perm List.perm_append_comm) ?_
              conv => whnf
              refine ⟨gx, ox, rfl, by omega, ?_⟩
              conv => whnf
              refine ⟨_, hcx _ (fun a ha => by simp [ha]) 1 _ rfl, ?_⟩
              conv => whnf
              refine ⟨_, rfl, hfr g28 (costF other) _ (fun a ha => by simp [ha]) (by rw [eF]; simp), ?_⟩
              conv => whnf
              refine ACalls.weak (Weak.perm List.perm_append_comm) (c_Ask g4 a5 b5 c5 d5 _ x.1 x.2.ps (costF other) H.M _ hB1 hV5 (hix _ (fun a ha => by simp [ha])) (by omega) okd.I _ fun a7 b7 c7 d7 hV7 => ?_)
              refine ⟨_, bkA g4 a7 b7 c7 d7 _, Weak.perm List.perm_append_comm, fun _ _ h => h, ?_⟩
              conv => whnf
              refine ⟨_, Weak.perm List.perm_append_comm, ?_⟩
              conv => whnf
              refine AWp.weak (weakBlk [_, _, _] [2] Y (L := bkA g3 a3 b3 c3 d3 B ++ (bkA g4 a7 b7 c7 d7 _ ++ (F ++ Y))) rfl) ?_
              refine awp_draw hT hM 7 (List.range 7) (by kernel_rfl) H.M _ _ (Weak.perm List.perm_append_comm) ?_
              conv => whnf
              refine ⟨gx, ox, rfl, by omega, ?_⟩
              conv => whnf
              refine ⟨_, hcx _ (fun a ha => by simp [ha]) 1 _ rfl, ?_⟩
              conv => whnf
              refine ⟨_, rfl, hfr g29 ((addF (costF cost) (costF other)).1) _ (fun a ha => by simp [ha]) (by rw [eF]; simp), ?_⟩
              conv => whnf
              refine ACalls.weak (Weak.perm List.perm_append_comm) (c_Ask g3 a3 b3 c3 d3 B x.1 x.2.ps _ H.M _ hB hV3 (hix _ (fun a ha => by simp [ha])) (by omega) oks.I _ fun a9 b9 c9 d9 hV9 => ?_)
              refine ⟨_, bkA g3 a9 b9 c9 d9 _, Weak.perm List.perm_append_comm, fun _ _ h => h, ?_⟩
              conv => whnf
              refine ⟨_, Weak.perm List.perm_append_comm, ?_⟩
              conv => whnf
              have h3l : (askB B x.2.ps (addF (costF cost) (costF other)).1).1.lim.length = B.lim.length := by rw [(ask_kept hB).2.lim]
              have h3m : (askB B x.2.ps (addF (costF cost) (costF other)).1).1.most.length = B.most.length := by rw [(ask_kept hB).2.most]
              generalize (askB B x.2.ps (addF (costF cost) (costF other)).1).1 = Bo at *
              generalize (askB B x.2.ps (addF (costF cost) (costF other)).1).2 = o at *
              generalize (askB (askB B x.2.ps (costF cost)).1 x.2.ps (costF other)).1 = Bj at *
              generalize (askB (askB B x.2.ps (costF cost)).1 x.2.ps (costF other)).2 = kk at *
              generalize (askB B x.2.ps (costF cost)).2 = j at *
              by_cases ho0 : o = 0
              · have hjk := hO.1.2 ho0
                obtain ⟨hj, hkk⟩ := hjk
                subst ho0 hj hkk
                conv => whnf
                refine awp_drawQ hT hM 20 (by kernel_rfl) ?_
                conv => whnf
                refine ⟨_, (hr _ (fun a ha => by simp [ha])).h 1 _ rfl, ?_⟩
                conv => whnf
                refine ⟨_, (hr _ (fun a ha => by simp [ha])).h 5 _ rfl, ?_⟩
                conv => whnf
                refine c_equalQ g3 a9 b9 c9 d9 g4 a7 b7 c7 d7 Bo Bj _ hB3 hB2 (bkIn hV9 fun a ha => by simp [ha]) (bkIn hV7 fun a ha => by simp [ha]) (hO.2 rfl) _ _ ?_ ?_ _ ⟨Weak.refl _, ?_⟩
                · omega
                · omega
                conv => whnf
                refine c_lives _ _ ⟨Weak.refl _, ?_⟩
                conv => whnf
                refine ⟨rfl, ?_⟩
                conv => whnf
                exact fin (Weak.refl _) (hR _)
              · conv => whnf
                by_cases hj : j = 0
                · have hkk : ¬ kk = 0 := fun hkk => ho0 (hO.1.1 ⟨hj, hkk⟩)
                  refine ifC_pos (hj) ?_
                  conv => whnf
                  rw [decide_eq_false hkk, decide_eq_false ho0]
                  conv => whnf
                  refine awp_drawQ hT hM 20 (by kernel_rfl) ?_
                  conv => whnf
                  refine ifC_pos (ho0) ?_
                  conv => whnf
                  refine c_lives _ _ ⟨Weak.refl _, ?_⟩
                  conv => whnf
                  refine ⟨rfl, ?_⟩
                  conv => whnf
                  exact fin (Weak.refl _) (hR _)
                · refine ifC_neg (hj) ?_
                  conv => whnf
                  rw [decide_eq_false ho0]
                  conv => whnf
                  refine awp_drawQ hT hM 20 (by kernel_rfl) ?_
                  conv => whnf
                  refine ifC_pos (ho0) ?_
                  conv => whnf
                  refine c_lives _ _ ⟨Weak.refl _, ?_⟩
                  conv => whnf
                  refine ⟨rfl, ?_⟩
                  conv => whnf
                  exact fin (Weak.refl _) (hR _)
            · conv => whnf
              repeat ((first | refine ifC_pos (by assumption) ?_ | refine ifC_neg (by assumption) ?_ | rw [decide_eq_false hf] | rw [decide_eq_false hh]); conv => whnf)
              conv => whnf
              refine c_Cost _ hc _ _ ?_
              conv => whnf
              intro g27
              conv => whnf
              refine stC 0 rfl rfl (by first | (refine ⟨rfl, ?_⟩; repeat' (first | exact trivial | refine ⟨rfl, ?_⟩)) | simp [oneCells, Value.oneCell', setN]) ?_
              conv => whnf
              refine c_Cost _ hd _ _ ?_
              conv => whnf
              intro g28
              conv => whnf
              refine stC 0 rfl rfl (by first | (refine ⟨rfl, ?_⟩; repeat' (first | exact trivial | refine ⟨rfl, ?_⟩)) | simp [oneCells, Value.oneCell', setN]) ?_
              conv => whnf
              refine ldA 1 rfl rfl ?_
              conv => whnf
              refine ldA 0 rfl rfl ?_
              conv => whnf
              refine c_Add _ _ okc.I okd.I _ _ ?_
              rw [hadd]
              conv => whnf
              intro g29
              conv => whnf
              refine stC 0 rfl rfl (by first | (refine ⟨rfl, ?_⟩; repeat' (first | exact trivial | refine ⟨rfl, ?_⟩)) | simp [oneCells, Value.oneCell', setN]) ?_
              conv => whnf
              obtain ⟨F, eF⟩ : ∃ F, F = [frA g29 (addF (costF cost) (costF other)).1, frA g28 (costF other), frA g27 (costF cost)] := ⟨_, rfl⟩
              refine AWp.weak (H1 := ⟨H.M, bkA g4 a4 b4 c4 d4 B ++ (F ++ (bkA g3 a3 b3 c3 d3 B ++ Y))⟩) (by
                rw [eF]
                exact (weakBlk [[_, _, _], _, _, _, _] [1, 1, 1] Y (L := bkA g2 a8 b8 c8 d8 Byx ++ (bkA g1 a6 b6 c6 d6 Bxy ++ (bkA g4 a4 b4 c4 d4 B ++ (_ ++ (bkA g3 a3 b3 c3 d3 B ++ Y))))) rfl).trans ((Weak.dropAll _ _ _).trans (Weak.dropAll _ _ _))) ?_
              have hfr : ∀ (g : Nat) (q : Fr) (L : List Atom), (∀ a ∈ F, a ∈ L) → frA g q ∈ F → CellsAt ⟨H.M, L⟩ g 0 q.cs := fun g q L h hm j v hj => .inr ⟨_, h _ hm, rfl, by rw [Nat.zero_add]; exact hj⟩
              refine awp_draw hT hM 7 (List.range 7) (by kernel_rfl) H.M _ _ (Weak.perm List.perm_append_comm) ?_
              conv => whnf
              refine ⟨gx, ox, rfl, by omega, ?_⟩
              conv => whnf
              refine ⟨_, hcx _ (fun a ha => by simp [ha]) 1 _ rfl, ?_⟩
              conv => whnf
              refine ⟨_, rfl, hfr g27 (costF cost) _ (fun a ha => by simp [ha]) (by rw [eF]; simp), ?_⟩
              conv => whnf
              refine ACalls.weak (Weak.perm List.perm_append_comm) (c_Ask g4 a4 b4 c4 d4 B x.1 x.2.ps (costF cost) H.M _ hB hV4 (hix _ (fun a ha => by simp [ha])) (by omega) okc.I _ fun a5 b5 c5 d5 hV5 => ?_)
              refine ⟨_, bkA g4 a5 b5 c5 d5 _, Weak.perm List.perm_append_comm, fun _ _ h => h, ?_⟩
              conv => whnf
              refine ⟨_, Weak.perm List.perm_append_comm, ?_⟩
              conv => whnf
              refine awp_draw hT hM 7 (List.range 7) (by kernel_rfl) H.M _ _ (Weak.perm List.perm_append_comm) ?_
              conv => whnf
              refine ⟨gx, ox, rfl, by omega, ?_⟩
              conv => whnf
              refine ⟨_, hcx _ (fun a ha => by simp [ha]) 1 _ rfl, ?_⟩
              conv => whnf
              refine ⟨_, rfl, hfr g28 (costF other) _ (fun a ha => by simp [ha]) (by rw [eF]; simp), ?_⟩
              conv => whnf
              refine ACalls.weak (Weak.perm List.perm_append_comm) (c_Ask g4 a5 b5 c5 d5 _ x.1 x.2.ps (costF other) H.M _ hB1 hV5 (hix _ (fun a ha => by simp [ha])) (by omega) okd.I _ fun a7 b7 c7 d7 hV7 => ?_)
              refine ⟨_, bkA g4 a7 b7 c7 d7 _, Weak.perm List.perm_append_comm, fun _ _ h => h, ?_⟩
              conv => whnf
              refine ⟨_, Weak.perm List.perm_append_comm, ?_⟩
              conv => whnf
              refine AWp.weak (weakBlk [_, _, _] [2] Y (L := bkA g3 a3 b3 c3 d3 B ++ (bkA g4 a7 b7 c7 d7 _ ++ (F ++ Y))) rfl) ?_
              refine awp_draw hT hM 7 (List.range 7) (by kernel_rfl) H.M _ _ (Weak.perm List.perm_append_comm) ?_
              conv => whnf
              refine ⟨gx, ox, rfl, by omega, ?_⟩
              conv => whnf
              refine ⟨_, hcx _ (fun a ha => by simp [ha]) 1 _ rfl, ?_⟩
              conv => whnf
              refine ⟨_, rfl, hfr g29 ((addF (costF cost) (costF other)).1) _ (fun a ha => by simp [ha]) (by rw [eF]; simp), ?_⟩
              conv => whnf
              refine ACalls.weak (Weak.perm List.perm_append_comm) (c_Ask g3 a3 b3 c3 d3 B x.1 x.2.ps _ H.M _ hB hV3 (hix _ (fun a ha => by simp [ha])) (by omega) oks.I _ fun a9 b9 c9 d9 hV9 => ?_)
              refine ⟨_, bkA g3 a9 b9 c9 d9 _, Weak.perm List.perm_append_comm, fun _ _ h => h, ?_⟩
              conv => whnf
              refine ⟨_, Weak.perm List.perm_append_comm, ?_⟩
              conv => whnf
              have h3l : (askB B x.2.ps (addF (costF cost) (costF other)).1).1.lim.length = B.lim.length := by rw [(ask_kept hB).2.lim]
              have h3m : (askB B x.2.ps (addF (costF cost) (costF other)).1).1.most.length = B.most.length := by rw [(ask_kept hB).2.most]
              generalize (askB B x.2.ps (addF (costF cost) (costF other)).1).1 = Bo at *
              generalize (askB B x.2.ps (addF (costF cost) (costF other)).1).2 = o at *
              generalize (askB (askB B x.2.ps (costF cost)).1 x.2.ps (costF other)).1 = Bj at *
              generalize (askB (askB B x.2.ps (costF cost)).1 x.2.ps (costF other)).2 = kk at *
              generalize (askB B x.2.ps (costF cost)).2 = j at *
              by_cases ho0 : o = 0
              · have hjk := hO.1.2 ho0
                obtain ⟨hj, hkk⟩ := hjk
                subst ho0 hj hkk
                conv => whnf
                refine awp_drawQ hT hM 20 (by kernel_rfl) ?_
                conv => whnf
                refine ⟨_, (hr _ (fun a ha => by simp [ha])).h 1 _ rfl, ?_⟩
                conv => whnf
                refine ⟨_, (hr _ (fun a ha => by simp [ha])).h 5 _ rfl, ?_⟩
                conv => whnf
                refine c_equalQ g3 a9 b9 c9 d9 g4 a7 b7 c7 d7 Bo Bj _ hB3 hB2 (bkIn hV9 fun a ha => by simp [ha]) (bkIn hV7 fun a ha => by simp [ha]) (hO.2 rfl) _ _ ?_ ?_ _ ⟨Weak.refl _, ?_⟩
                · omega
                · omega
                conv => whnf
                refine c_lives _ _ ⟨Weak.refl _, ?_⟩
                conv => whnf
                refine ⟨rfl, ?_⟩
                conv => whnf
                exact fin (Weak.refl _) (hR _)
              · conv => whnf
                by_cases hj : j = 0
                · have hkk : ¬ kk = 0 := fun hkk => ho0 (hO.1.1 ⟨hj, hkk⟩)
                  refine ifC_pos (hj) ?_
                  conv => whnf
                  rw [decide_eq_false hkk, decide_eq_false ho0]
                  conv => whnf
                  refine awp_drawQ hT hM 20 (by kernel_rfl) ?_
                  conv => whnf
                  refine ifC_pos (ho0) ?_
                  conv => whnf
                  refine c_lives _ _ ⟨Weak.refl _, ?_⟩
                  conv => whnf
                  refine ⟨rfl, ?_⟩
                  conv => whnf
                  exact fin (Weak.refl _) (hR _)
                · refine ifC_neg (hj) ?_
                  conv => whnf
                  rw [decide_eq_false ho0]
                  conv => whnf
                  refine awp_drawQ hT hM 20 (by kernel_rfl) ?_
                  conv => whnf
                  refine ifC_pos (ho0) ?_
                  conv => whnf
                  refine c_lives _ _ ⟨Weak.refl _, ?_⟩
                  conv => whnf
                  refine ⟨rfl, ?_⟩
                  conv => whnf
                  exact fin (Weak.refl _) (hR _)
          · by_cases hg : g0 = 0
            · have hh : ¬ h = 0 := fun hh => Q ⟨hg, hh⟩
              conv => whnf
              repeat ((first | refine ifC_pos (by assumption) ?_ | refine ifC_neg (by assumption) ?_ | rw [decide_eq_false hf] | rw [decide_eq_false hh]); conv => whnf)
              conv => whnf
              refine c_Cost _ hc _ _ ?_
              conv => whnf
              intro g27
              conv => whnf
              refine stC 0 rfl rfl (by first | (refine ⟨rfl, ?_⟩; repeat' (first | exact trivial | refine ⟨rfl, ?_⟩)) | simp [oneCells, Value.oneCell', setN]) ?_
              conv => whnf
              refine c_Cost _ hd _ _ ?_
              conv => whnf
              intro g28
              conv => whnf
              refine stC 0 rfl rfl (by first | (refine ⟨rfl, ?_⟩; repeat' (first | exact trivial | refine ⟨rfl, ?_⟩)) | simp [oneCells, Value.oneCell', setN]) ?_
              conv => whnf
              refine ldA 1 rfl rfl ?_
              conv => whnf
              refine ldA 0 rfl rfl ?_
              conv => whnf
              refine c_Add _ _ okc.I okd.I _ _ ?_
              rw [hadd]
              conv => whnf
              intro g29
              conv => whnf
              refine stC 0 rfl rfl (by first | (refine ⟨rfl, ?_⟩; repeat' (first | exact trivial | refine ⟨rfl, ?_⟩)) | simp [oneCells, Value.oneCell', setN]) ?_
              conv => whnf
              obtain ⟨F, eF⟩ : ∃ F, F = [frA g29 (addF (costF cost) (costF other)).1, frA g28 (costF other), frA g27 (costF cost)] := ⟨_, rfl⟩
              refine AWp.weak (H1 := ⟨H.M, bkA g4 a4 b4 c4 d4 B ++ (F ++ (bkA g3 a3 b3 c3 d3 B ++ Y))⟩) (by
                rw [eF]
                exact (weakBlk [[_, _, _], _, _, _, _] [1, 1, 1] Y (L := bkA g2 a8 b8 c8 d8 Byx ++ (bkA g1 a6 b6 c6 d6 Bxy ++ (bkA g4 a4 b4 c4 d4 B ++ (_ ++ (bkA g3 a3 b3 c3 d3 B ++ Y))))) rfl).trans ((Weak.dropAll _ _ _).trans (Weak.dropAll _ _ _))) ?_
              have hfr : ∀ (g : Nat) (q : Fr) (L : List Atom), (∀ a ∈ F, a ∈ L) → frA g q ∈ F → CellsAt ⟨H.M, L⟩ g 0 q.cs := fun g q L h hm j v hj => .inr ⟨_, h _ hm, rfl, by rw [Nat.zero_add]; exact hj⟩
              refine awp_draw hT hM 7 (List.range 7) (by kernel_rfl) H.M _ _ (Weak.perm List.perm_append_comm) ?_
              conv => whnf
              refine ⟨gx, ox, rfl, by omega, ?_⟩
              conv => whnf
              refine ⟨_, hcx _ (fun a ha => by simp [ha]) 1 _ rfl, ?_⟩
              conv => whnf
              refine ⟨_, rfl, hfr g27 (costF cost) _ (fun a ha => by simp [ha]) (by rw [eF]; simp), ?_⟩
              conv => whnf
              refine ACalls.weak (Weak.perm List.perm_append_comm) (c_Ask g4 a4 b4 c4 d4 B x.1 x.2.ps (costF cost) H.M _ hB hV4 (hix _ (fun a ha => by simp [ha])) (by omega) okc.I _ fun a5 b5 c5 d5 hV5 => ?_)
              refine ⟨_, bkA g4 a5 b5 c5 d5 _, Weak.perm List.perm_append_comm, fun _ _ h => h, ?_⟩
              conv => whnf
              refine ⟨_, Weak.perm List.perm_append_comm, ?_⟩
              conv => whnf
              refine awp_draw hT hM 7 (List.range 7) (by kernel_rfl) H.M _ _ (Weak.perm List.perm_append_comm) ?_
              conv => whnf
              refine ⟨gx, ox, rfl, by omega, ?_⟩
              conv => whnf
              refine ⟨_, hcx _ (fun a ha => by simp [ha]) 1 _ rfl, ?_⟩
              conv => whnf
              refine ⟨_, rfl, hfr g28 (costF other) _ (fun a ha => by simp [ha]) (by rw [eF]; simp), ?_⟩
              conv => whnf
              refine ACalls.weak (Weak.perm List.perm_append_comm) (c_Ask g4 a5 b5 c5 d5 _ x.1 x.2.ps (costF other) H.M _ hB1 hV5 (hix _ (fun a ha => by simp [ha])) (by omega) okd.I _ fun a7 b7 c7 d7 hV7 => ?_)
              refine ⟨_, bkA g4 a7 b7 c7 d7 _, Weak.perm List.perm_append_comm, fun _ _ h => h, ?_⟩
              conv => whnf
              refine ⟨_, Weak.perm List.perm_append_comm, ?_⟩
              conv => whnf
              refine AWp.weak (weakBlk [_, _, _] [2] Y (L := bkA g3 a3 b3 c3 d3 B ++ (bkA g4 a7 b7 c7 d7 _ ++ (F ++ Y))) rfl) ?_
              refine awp_draw hT hM 7 (List.range 7) (by kernel_rfl) H.M _ _ (Weak.perm List.perm_append_comm) ?_
              conv => whnf
              refine ⟨gx, ox, rfl, by omega, ?_⟩
              conv => whnf
              refine ⟨_, hcx _ (fun a ha => by simp [ha]) 1 _ rfl, ?_⟩
              conv => whnf
              refine ⟨_, rfl, hfr g29 ((addF (costF cost) (costF other)).1) _ (fun a ha => by simp [ha]) (by rw [eF]; simp), ?_⟩
              conv => whnf
              refine ACalls.weak (Weak.perm List.perm_append_comm) (c_Ask g3 a3 b3 c3 d3 B x.1 x.2.ps _ H.M _ hB hV3 (hix _ (fun a ha => by simp [ha])) (by omega) oks.I _ fun a9 b9 c9 d9 hV9 => ?_)
              refine ⟨_, bkA g3 a9 b9 c9 d9 _, Weak.perm List.perm_append_comm, fun _ _ h => h, ?_⟩
              conv => whnf
              refine ⟨_, Weak.perm List.perm_append_comm, ?_⟩
              conv => whnf
              have h3l : (askB B x.2.ps (addF (costF cost) (costF other)).1).1.lim.length = B.lim.length := by rw [(ask_kept hB).2.lim]
              have h3m : (askB B x.2.ps (addF (costF cost) (costF other)).1).1.most.length = B.most.length := by rw [(ask_kept hB).2.most]
              generalize (askB B x.2.ps (addF (costF cost) (costF other)).1).1 = Bo at *
              generalize (askB B x.2.ps (addF (costF cost) (costF other)).1).2 = o at *
              generalize (askB (askB B x.2.ps (costF cost)).1 x.2.ps (costF other)).1 = Bj at *
              generalize (askB (askB B x.2.ps (costF cost)).1 x.2.ps (costF other)).2 = kk at *
              generalize (askB B x.2.ps (costF cost)).2 = j at *
              by_cases ho0 : o = 0
              · have hjk := hO.1.2 ho0
                obtain ⟨hj, hkk⟩ := hjk
                subst ho0 hj hkk
                conv => whnf
                refine awp_drawQ hT hM 20 (by kernel_rfl) ?_
                conv => whnf
                refine ⟨_, (hr _ (fun a ha => by simp [ha])).h 1 _ rfl, ?_⟩
                conv => whnf
                refine ⟨_, (hr _ (fun a ha => by simp [ha])).h 5 _ rfl, ?_⟩
                conv => whnf
                refine c_equalQ g3 a9 b9 c9 d9 g4 a7 b7 c7 d7 Bo Bj _ hB3 hB2 (bkIn hV9 fun a ha => by simp [ha]) (bkIn hV7 fun a ha => by simp [ha]) (hO.2 rfl) _ _ ?_ ?_ _ ⟨Weak.refl _, ?_⟩
                · omega
                · omega
                conv => whnf
                refine c_lives _ _ ⟨Weak.refl _, ?_⟩
                conv => whnf
                refine ⟨rfl, ?_⟩
                conv => whnf
                exact fin (Weak.refl _) (hR _)
              · conv => whnf
                by_cases hj : j = 0
                · have hkk : ¬ kk = 0 := fun hkk => ho0 (hO.1.1 ⟨hj, hkk⟩)
                  refine ifC_pos (hj) ?_
                  conv => whnf
                  rw [decide_eq_false hkk, decide_eq_false ho0]
                  conv => whnf
                  refine awp_drawQ hT hM 20 (by kernel_rfl) ?_
                  conv => whnf
                  refine ifC_pos (ho0) ?_
                  conv => whnf
                  refine c_lives _ _ ⟨Weak.refl _, ?_⟩
                  conv => whnf
                  refine ⟨rfl, ?_⟩
                  conv => whnf
                  exact fin (Weak.refl _) (hR _)
                · refine ifC_neg (hj) ?_
                  conv => whnf
                  rw [decide_eq_false ho0]
                  conv => whnf
                  refine awp_drawQ hT hM 20 (by kernel_rfl) ?_
                  conv => whnf
                  refine ifC_pos (ho0) ?_
                  conv => whnf
                  refine c_lives _ _ ⟨Weak.refl _, ?_⟩
                  conv => whnf
                  refine ⟨rfl, ?_⟩
                  conv => whnf
                  exact fin (Weak.refl _) (hR _)
            · conv => whnf
              repeat ((first | refine ifC_pos (by assumption) ?_ | refine ifC_neg (by assumption) ?_ | rw [decide_eq_false hf] | rw [decide_eq_false hh]); conv => whnf)
              conv => whnf
              refine c_Cost _ hc _ _ ?_
              conv => whnf
              intro g27
              conv => whnf
              refine stC 0 rfl rfl (by first | (refine ⟨rfl, ?_⟩; repeat' (first | exact trivial | refine ⟨rfl, ?_⟩)) | simp [oneCells, Value.oneCell', setN]) ?_
              conv => whnf
              refine c_Cost _ hd _ _ ?_
              conv => whnf
              intro g28
              conv => whnf
              refine stC 0 rfl rfl (by first | (refine ⟨rfl, ?_⟩; repeat' (first | exact trivial | refine ⟨rfl, ?_⟩)) | simp [oneCells, Value.oneCell', setN]) ?_
              conv => whnf
              refine ldA 1 rfl rfl ?_
              conv => whnf
              refine ldA 0 rfl rfl ?_
              conv => whnf
              refine c_Add _ _ okc.I okd.I _ _ ?_
              rw [hadd]
              conv => whnf
              intro g29
              conv => whnf
              refine stC 0 rfl rfl (by first | (refine ⟨rfl, ?_⟩; repeat' (first | exact trivial | refine ⟨rfl, ?_⟩)) | simp [oneCells, Value.oneCell', setN]) ?_
              conv => whnf
              obtain ⟨F, eF⟩ : ∃ F, F = [frA g29 (addF (costF cost) (costF other)).1, frA g28 (costF other), frA g27 (costF cost)] := ⟨_, rfl⟩
              refine AWp.weak (H1 := ⟨H.M, bkA g4 a4 b4 c4 d4 B ++ (F ++ (bkA g3 a3 b3 c3 d3 B ++ Y))⟩) (by
                rw [eF]
                exact (weakBlk [[_, _, _], _, _, _, _] [1, 1, 1] Y (L := bkA g2 a8 b8 c8 d8 Byx ++ (bkA g1 a6 b6 c6 d6 Bxy ++ (bkA g4 a4 b4 c4 d4 B ++ (_ ++ (bkA g3 a3 b3 c3 d3 B ++ Y))))) rfl).trans ((Weak.dropAll _ _ _).trans (Weak.dropAll _ _ _))) ?_
              have hfr : ∀ (g : Nat) (q : Fr) (L : List Atom), (∀ a ∈ F, a ∈ L) → frA g q ∈ F → CellsAt ⟨H.M, L⟩ g 0 q.cs := fun g q L h hm j v hj => .inr ⟨_, h _ hm, rfl, by rw [Nat.zero_add]; exact hj⟩
              refine awp_draw hT hM 7 (List.range 7) (by kernel_rfl) H.M _ _ (Weak.perm List.perm_append_comm) ?_
              conv => whnf
              refine ⟨gx, ox, rfl, by omega, ?_⟩
              conv => whnf
              refine ⟨_, hcx _ (fun a ha => by simp [ha]) 1 _ rfl, ?_⟩
              conv => whnf
              refine ⟨_, rfl, hfr g27 (costF cost) _ (fun a ha => by simp [ha]) (by rw [eF]; simp), ?_⟩
              conv => whnf
              refine ACalls.weak (Weak.perm List.perm_append_comm) (c_Ask g4 a4 b4 c4 d4 B x.1 x.2.ps (costF cost) H.M _ hB hV4 (hix _ (fun a ha => by simp [ha])) (by omega) okc.I _ fun a5 b5 c5 d5 hV5 => ?_)
              refine ⟨_, bkA g4 a5 b5 c5 d5 _, Weak.perm List.perm_append_comm, fun _ _ h => h, ?_⟩
              conv => whnf
              refine ⟨_, Weak.perm List.perm_append_comm, ?_⟩
              conv => whnf
              refine awp_draw hT hM 7 (List.range 7) (by kernel_rfl) H.M _ _ (Weak.perm List.perm_append_comm) ?_
              conv => whnf
              refine ⟨gx, ox, rfl, by omega, ?_⟩
              conv => whnf
              refine ⟨_, hcx _ (fun a ha => by simp [ha]) 1 _ rfl, ?_⟩
              conv => whnf
              refine ⟨_, rfl, hfr g28 (costF other) _ (fun a ha => by simp [ha]) (by rw [eF]; simp), ?_⟩
              conv => whnf
              refine ACalls.weak (Weak.perm List.perm_append_comm) (c_Ask g4 a5 b5 c5 d5 _ x.1 x.2.ps (costF other) H.M _ hB1 hV5 (hix _ (fun a ha => by simp [ha])) (by omega) okd.I _ fun a7 b7 c7 d7 hV7 => ?_)
              refine ⟨_, bkA g4 a7 b7 c7 d7 _, Weak.perm List.perm_append_comm, fun _ _ h => h, ?_⟩
              conv => whnf
              refine ⟨_, Weak.perm List.perm_append_comm, ?_⟩
              conv => whnf
              refine AWp.weak (weakBlk [_, _, _] [2] Y (L := bkA g3 a3 b3 c3 d3 B ++ (bkA g4 a7 b7 c7 d7 _ ++ (F ++ Y))) rfl) ?_
              refine awp_draw hT hM 7 (List.range 7) (by kernel_rfl) H.M _ _ (Weak.perm List.perm_append_comm) ?_
              conv => whnf
              refine ⟨gx, ox, rfl, by omega, ?_⟩
              conv => whnf
              refine ⟨_, hcx _ (fun a ha => by simp [ha]) 1 _ rfl, ?_⟩
              conv => whnf
              refine ⟨_, rfl, hfr g29 ((addF (costF cost) (costF other)).1) _ (fun a ha => by simp [ha]) (by rw [eF]; simp), ?_⟩
              conv => whnf
              refine ACalls.weak (Weak.perm List.perm_append_comm) (c_Ask g3 a3 b3 c3 d3 B x.1 x.2.ps _ H.M _ hB hV3 (hix _ (fun a ha => by simp [ha])) (by omega) oks.I _ fun a9 b9 c9 d9 hV9 => ?_)
              refine ⟨_, bkA g3 a9 b9 c9 d9 _, Weak.perm List.perm_append_comm, fun _ _ h => h, ?_⟩
              conv => whnf
              refine ⟨_, Weak.perm List.perm_append_comm, ?_⟩
              conv => whnf
              have h3l : (askB B x.2.ps (addF (costF cost) (costF other)).1).1.lim.length = B.lim.length := by rw [(ask_kept hB).2.lim]
              have h3m : (askB B x.2.ps (addF (costF cost) (costF other)).1).1.most.length = B.most.length := by rw [(ask_kept hB).2.most]
              generalize (askB B x.2.ps (addF (costF cost) (costF other)).1).1 = Bo at *
              generalize (askB B x.2.ps (addF (costF cost) (costF other)).1).2 = o at *
              generalize (askB (askB B x.2.ps (costF cost)).1 x.2.ps (costF other)).1 = Bj at *
              generalize (askB (askB B x.2.ps (costF cost)).1 x.2.ps (costF other)).2 = kk at *
              generalize (askB B x.2.ps (costF cost)).2 = j at *
              by_cases ho0 : o = 0
              · have hjk := hO.1.2 ho0
                obtain ⟨hj, hkk⟩ := hjk
                subst ho0 hj hkk
                conv => whnf
                refine awp_drawQ hT hM 20 (by kernel_rfl) ?_
                conv => whnf
                refine ⟨_, (hr _ (fun a ha => by simp [ha])).h 1 _ rfl, ?_⟩
                conv => whnf
                refine ⟨_, (hr _ (fun a ha => by simp [ha])).h 5 _ rfl, ?_⟩
                conv => whnf
                refine c_equalQ g3 a9 b9 c9 d9 g4 a7 b7 c7 d7 Bo Bj _ hB3 hB2 (bkIn hV9 fun a ha => by simp [ha]) (bkIn hV7 fun a ha => by simp [ha]) (hO.2 rfl) _ _ ?_ ?_ _ ⟨Weak.refl _, ?_⟩
                · omega
                · omega
                conv => whnf
                refine c_lives _ _ ⟨Weak.refl _, ?_⟩
                conv => whnf
                refine ⟨rfl, ?_⟩
                conv => whnf
                exact fin (Weak.refl _) (hR _)
              · conv => whnf
                by_cases hj : j = 0
                · have hkk : ¬ kk = 0 := fun hkk => ho0 (hO.1.1 ⟨hj, hkk⟩)
                  refine ifC_pos (hj) ?_
                  conv => whnf
                  rw [decide_eq_false hkk, decide_eq_false ho0]
                  conv => whnf
                  refine awp_drawQ hT hM 20 (by kernel_rfl) ?_
                  conv => whnf
                  refine ifC_pos (ho0) ?_
                  conv => whnf
                  refine c_lives _ _ ⟨Weak.refl _, ?_⟩
                  conv => whnf
                  refine ⟨rfl, ?_⟩
                  conv => whnf
                  exact fin (Weak.refl _) (hR _)
                · refine ifC_neg (hj) ?_
                  conv => whnf
                  rw [decide_eq_false ho0]
                  conv => whnf
                  refine awp_drawQ hT hM 20 (by kernel_rfl) ?_
                  conv => whnf
                  refine ifC_pos (ho0) ?_
                  conv => whnf
                  refine c_lives _ _ ⟨Weak.refl _, ?_⟩
                  conv => whnf
                  refine ⟨rfl, ?_⟩
                  conv => whnf
                  exact fin (Weak.refl _) (hR _)
end Go.Proofs.Ytpblnfldhicfgaa.A
