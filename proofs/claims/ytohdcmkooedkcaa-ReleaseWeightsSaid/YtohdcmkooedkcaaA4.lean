/- The operations that compute, build and grow: they do what is told of them. -/
import Derived.Test.YtohdcmkooedkcaaA3
import Derived.Laws.Tables
import Derived.Laws.StructEq
import Derived.Laws.MakeOwn
namespace Go.Proofs.Ytohdcmkooedkcaa.A
open Go Go.RowKit
set_option linter.unusedVariables false
set_option linter.unusedSimpArgs false

section
variable {P : Program} {w0 w : World} {F : List Atom} {H : Hp} {K : Value → Hp → Prop} {E : List PanicEntry → Hp → Prop} {T : Tab}

theorem tab_get (hT : Tab.okFrom P 0 T) {t : Nat} {K' : TI → Prop} (h : tyF T t K') : ∃ i : TI, i.ok P t ∧ K' i := by
  obtain ⟨i, hi, h⟩ := tyF_get h
  have hok := Tab.okFrom_get T 0 t i hT hi
  rw [Nat.zero_add] at hok
  exact ⟨i, hok, h⟩

/-! ### Numbers -/
theorem intBinF_ok {op : BinOp} {t : Nat} {k : IntKind} {m n : Int} {K' : Value → Prop} (hs : isShift op = false) (h : intBinF op k m n K') :
    ∃ v, (binOp op t (.int k m) (.int k n)).run P w = .ok v w ∧ K' v := by
  cases op <;> simp only [intBinF, isShift] at h hs <;> first
    | (obtain ⟨r, rfl, h⟩ := h; exact ⟨_, by simp [binOp, Op.intArith], h⟩)
    | (obtain ⟨h0, r, rfl, h⟩ := h; exact ⟨_, by simp [binOp, Op.intDiv, h0], h⟩)
    | exact h.elim
    | (refine ⟨_, ?_, h⟩; simp [binOp, Op.intCmp]; done)
    | (refine ⟨_, ?_, h⟩; simp only [binOp, Op.intCmp, ne_eq, not_true_eq_false, if_false, Sem.run_pure, Result.ok.injEq, Value.bool.injEq, and_true]; rw [Bool.eq_iff_iff]; simp)
    | cases hs

theorem shiftF_ok {op : BinOp} {t : Nat} {k k' : IntKind} {m n : Int} {K' : Value → Prop} (hs : isShift op = true) (h : shiftF op k m n K') :
    ∃ v, (binOp op t (.int k m) (.int k' n)).run P w = .ok v w ∧ K' v := by
  cases op <;> simp only [isShift, Bool.false_eq_true] at hs
  · obtain ⟨h0, r, rfl, h⟩ := h
    exact ⟨_, by simp [binOp, Op.shift, show ¬ n < 0 by omega], h⟩
  · obtain ⟨h0, r, rfl, h⟩ := h
    exact ⟨_, by simp [binOp, Op.shift, show ¬ n < 0 by omega], h⟩

theorem eqB_ok {op : BinOp} {b : Bool} {K' : Value → Prop} (h : eqB op b K') : (op = .eql ∧ K' (.bool b)) ∨ (op = .neq ∧ K' (.bool (!b))) := by
  cases op <;> first | exact .inl ⟨rfl, h⟩ | exact .inr ⟨rfl, h⟩ | exact h.elim

theorem eql_ok {op : BinOp} {t : Nat} {x y : Value} {b : Bool} {K' : Value → Prop} (he : (Op.equal t x y).run P w = .ok b w) (h : eqB op b K')
    (h1 : binOp .eql t x y = (do pure (.bool (← Op.equal t x y)))) (h2 : binOp .neq t x y = (do pure (.bool (!(← Op.equal t x y))))) : ∃ v, (binOp op t x y).run P w = .ok v w ∧ K' v := by
  rcases eqB_ok h with ⟨rfl, h⟩ | ⟨rfl, h⟩
  · exact ⟨_, by rw [h1]; simp [he], h⟩
  · exact ⟨_, by rw [h2]; simp [he], h⟩

theorem equalIn_pair {d : Nat} {t : Nat} (hp : PairOk P t) {a b c e : Int} :
    (Op.equalIn (d + 2) t (.agg #[.int .i64 a, .int .i64 b]) (.agg #[.int .i64 c, .int .i64 e])).run P w = .ok (decide (a = c) && decide (b = e)) w := by
  obtain ⟨h1, _, f0, f1, hu, ho0, ho1, hn0, hn1, hu0, hu1⟩ := hp
  have e0 : (Op.equalIn (d + 1) f0.type (.int .i64 a) (.int .i64 c)).run P w = .ok (a == c) w := run_equalIn_int w d f0.type .i64 .i64 a c hu0
  have e1 : (Op.equalIn (d + 1) f1.type (.int .i64 b) (.int .i64 e)).run P w = .ok (b == e) w := run_equalIn_int w d f1.type .i64 .i64 b e hu1
  have p0 : ∀ cs : Array Value, ∀ v, cs[0]? = some v → (part f0.type cs 0).run P w = .ok v w := fun cs v hv => by simp [part, run_isAgg_ok hu0, aggD, hv]
  have p1 : ∀ cs : Array Value, ∀ v, cs[1]? = some v → (part f1.type cs 1).run P w = .ok v w := fun cs v hv => by simp [part, run_isAgg_ok hu1, aggD, hv]
  rw [Op.equalIn]
  simp only [Sem.run_bind, run_underlying_ok hu, Result.andThen_ok, run_program, h1]
  have hne0 : f0.name ≠ "_" := fun e => by simp [e] at hn0
  have hne1 : f1.name ≠ "_" := fun e => by simp [e] at hn1
  by_cases hac : a = c
  · by_cases hbe : b = e
    · subst hac hbe
      simp [hne0, hne1, ho0, ho1, p0, p1, e0, e1]
    · subst hac
      have : (b == e) = false := by simp [hbe]
      simp [hne0, hne1, ho0, ho1, p0, p1, e0, e1, this, hbe]
  · have : (a == c) = false := by simp [hac]
    simp [hne0, hne1, ho0, ho1, p0, p1, e0, e1, this, hac]

theorem eqCellsF_ok {xs ys : List Value} {K' : Bool → Prop} (h : eqCellsF xs ys K') : ∃ a b c d, xs = [.int .i64 a, .int .i64 b] ∧ ys = [.int .i64 c, .int .i64 d] ∧ K' (decide (a = c) && decide (b = d)) := by
  unfold eqCellsF at h
  split at h
  · exact ⟨_, _, _, _, rfl, rfl, h⟩
  · exact h.elim

theorem equal_ptr {t : Nat} {e : TypeId} (hu : P.underlying t = some (.pointer e)) (p : Option Addr) (d : Nat) : (Op.equalIn (d + 1) t (.pointer p) (.pointer none)).run P w = .ok p.isNone w := by
  rw [Op.equalIn]
  cases p <;> simp [run_underlying_ok hu]
theorem equal_slice {t : Nat} {e : TypeId} (hu : P.underlying t = some (.slice e)) (p : Option Addr) (n c n' c' d : Nat) : (Op.equalIn (d + 1) t (.slice p n c) (.slice none n' c')).run P w = .ok p.isNone w := by
  rw [Op.equalIn]
  cases p <;> simp [run_underlying_ok hu]
theorem equal_map {t : Nat} {k e : TypeId} (hu : P.underlying t = some (.map k e)) (p : Option Nat) (d : Nat) : (Op.equalIn (d + 1) t (.map p) (.map none)).run P w = .ok p.isNone w := by
  rw [Op.equalIn]
  cases p <;> simp [run_underlying_ok hu]

theorem binF_ok (hT : Tab.okFrom P 0 T) {op : BinOp} {t : Nat} {x y : Value} {K' : Value → Prop} (h : binF T op t x y K') (ox oy : Operand) :
    ∃ v, (do eqGuard op t ox oy x y; binOp op t x y : Sem Value).run P w = .ok v w ∧ K' v := by
  have hg : ∀ {a b : Value}, (∀ cs ds, ¬ (a = .agg cs ∧ b = .agg ds)) → ¬ (a = .nilIface) → (eqGuard op t ox oy a b).run P w = .ok () w := by
    intro a b h1 h2
    unfold eqGuard
    cases a <;> cases b <;> cases op <;> simp_all
  unfold binF at h
  split at h
  · rename_i k m k' n
    have hgd := hg (a := .int k m) (b := .int k' n) (by simp) (by simp)
    rcases ifC_out h with ⟨hs, h⟩ | ⟨hs, h⟩
    · obtain ⟨v, hv, hk⟩ := shiftF_ok (P := P) (w := w) (t := t) (k' := k') hs h
      exact ⟨v, by simp [hgd, hv], hk⟩
    · rcases ifC_out h with ⟨hsk, h2⟩ | ⟨_, h2⟩
      · obtain rfl := sameK_eq hsk
        obtain ⟨v, hv, hk⟩ := intBinF_ok (P := P) (w := w) (t := t) hs h2
        exact ⟨v, by simp [hgd, hv], hk⟩
      · exact h2.elim
  · rename_i a b
    have hgd := hg (a := .bool a) (b := .bool b) (by simp) (by simp)
    obtain ⟨i, hi, h1⟩ := tab_get hT h
    clear h; have h := h1; clear h1
    split at h
    · rename_i hd
      have hu : P.underlying t = some .bool := by have := hi.1; rw [hd] at this; exact this
      have he : (Op.equal t (.bool a) (.bool b)).run P w = .ok (a == b) w := run_equalIn_bool' w 9999 t a b hu
      obtain ⟨v, hv, hk⟩ := eql_ok he h (by simp [binOp]) (by simp [binOp])
      exact ⟨v, by simp [hgd, hv], hk⟩
    · exact h.elim
  · rename_i p
    have hgd := hg (a := .pointer p) (b := .pointer none) (by simp) (by simp)
    obtain ⟨i, hi, h1⟩ := tab_get hT h
    clear h; have h := h1; clear h1
    split at h
    · rename_i hd
      have hu := hi.1
      rw [hd] at hu
      obtain ⟨e, _, hu, _⟩ := hu
      have he : (Op.equal t (.pointer p) (.pointer none)).run P w = .ok p.isNone w := equal_ptr hu p 9999
      obtain ⟨v, hv, hk⟩ := eql_ok he h (by simp [binOp]) (by simp [binOp])
      exact ⟨v, by simp [hgd, hv], hk⟩
    · exact h.elim
  · rename_i p n c n' c'
    have hgd := hg (a := .slice p n c) (b := .slice none n' c') (by simp) (by simp)
    obtain ⟨i, hi, h1⟩ := tab_get hT h
    clear h; have h := h1; clear h1
    split at h
    · rename_i hd
      have hu := hi.1
      rw [hd] at hu
      have hu := hu.1
      have he : (Op.equal t (.slice p n c) (.slice none n' c')).run P w = .ok p.isNone w := equal_slice hu p n c n' c' 9999
      obtain ⟨v, hv, hk⟩ := eql_ok he h (by simp [binOp]) (by simp [binOp])
      exact ⟨v, by simp [hgd, hv], hk⟩
    · exact h.elim
  · rename_i r
    have hgd := hg (a := .map r) (b := .map none) (by simp) (by simp)
    obtain ⟨i, hi, h1⟩ := tab_get hT h
    clear h; have h := h1; clear h1
    split at h
    · rename_i hd
      have hu := hi.1
      rw [hd] at hu
      have hu := hu.1
      have he : (Op.equal t (.map r) (.map none)).run P w = .ok r.isNone w := equal_map hu r 9999
      obtain ⟨v, hv, hk⟩ := eql_ok he h (by simp [binOp]) (by simp [binOp])
      exact ⟨v, by simp [hgd, hv], hk⟩
    · exact h.elim
  · rename_i xs ys
    obtain ⟨i, hi, h⟩ := tab_get hT h
    rcases ifC_out h with ⟨hp, h⟩ | ⟨_, h⟩
    · have hp := hi.2.2 hp
      obtain ⟨a, b, c, d, h1, h2, h⟩ := eqCellsF_ok h
      obtain rfl : xs = #[.int .i64 a, .int .i64 b] := by apply Array.toList_inj.1; simpa using h1
      obtain rfl : ys = #[.int .i64 c, .int .i64 d] := by apply Array.toList_inj.1; simpa using h2
      have hgd := run_eqGuard_agg (P := P) w op t ox oy #[.int .i64 a, .int .i64 b] #[.int .i64 c, .int .i64 d] hp.2.1
      have he : (Op.equal t (.agg #[.int .i64 a, .int .i64 b]) (.agg #[.int .i64 c, .int .i64 d])).run P w = .ok (decide (a = c) && decide (b = d)) w := equalIn_pair (d := 9998) hp
      obtain ⟨v, hv, hk⟩ := eql_ok he h (by simp [binOp]) (by simp [binOp])
      exact ⟨v, by simp [hgd, hv], hk⟩
    · exact h.elim
  · exact h.elim

theorem unF_ok {op : UnOp} {x : Value} {K' : Value → Prop} (h : unF op x K') : ∃ v, (Op.unary op x).run P w = .ok v w ∧ K' v := by
  unfold unF at h
  split at h
  · obtain ⟨r, rfl, h⟩ := h; exact ⟨_, by simp [Op.unary, Op.intArith], h⟩
  · exact ⟨_, by simp [Op.unary], h⟩
  · exact h.elim

theorem convF_ok (hT : Tab.okFrom P 0 T) {s d : Nat} {x : Value} {K' : Value → Prop} (h : convF T s d x K') : ∃ v, (convert s d x).run P w = .ok v w ∧ K' v := by
  unfold convF at h
  obtain ⟨i, hi, h1⟩ := tab_get hT h
  clear h
  obtain ⟨j, hj, h⟩ := tab_get hT h1
  clear h1
  split at h
  · rename_i k1 k2 k3 n h1 h2
    have hu := hi.1; rw [h1] at hu
    have hv := hj.1; rw [h2] at hv
    obtain ⟨r, rfl, h⟩ := h
    refine ⟨_, ?_, h⟩
    simp [convert, run_underlying_ok hu, run_underlying_ok hv, Conv.intToInt]
  · exact h.elim

theorem nilCheckF_ok {x : Value} {K' : Value → Prop} (h : nilCheckF x K') : K' x ∧ ((∃ a, x = .pointer (some a)) ∨ ∃ f a b, x = .func (.func f) a b) := by
  unfold nilCheckF at h
  split at h
  · exact ⟨h, .inl ⟨_, rfl⟩⟩
  · exact ⟨h, .inr ⟨_, _, _, rfl⟩⟩
  · exact h.elim

/-! ### Parts of structs, arrays and slices -/
theorem fieldAddrF_ok (hT : Tab.okFrom P 0 T) {t : Nat} {x : Value} {f : Nat} {K' : Value → Prop} (h : fieldAddrF T t x f K') : ∃ v, (Instr.fieldAt t x f).run P w = .ok v w ∧ K' v := by
  unfold fieldAddrF at h
  obtain ⟨i, hi, h1⟩ := tab_get hT h
  clear h; have h := h1; clear h1
  split at h
  · rename_i fs g o hd
    have hu := hi.1; rw [hd] at hu
    obtain ⟨fields, hu, hsz, hf⟩ := hu
    obtain ⟨p, hp, h⟩ := nthG_get h
    have hlt : f < fields.size := by rw [hsz]; exact (List.getElem?_eq_some_iff.1 hp).1
    obtain ⟨p', inf, d, hp', ho, hne, hin, his, hud, _⟩ := hf f fields[f] (by simp [hlt])
    rw [hp] at hp'
    obtain rfl := Option.some.inj hp'
    refine ⟨_, ?_, h⟩
    simp only [Instr.fieldAt, Sem.run_bind, run_underlying_ok hu, Result.andThen_ok]
    rw [show fields[f]? = some fields[f] by simp [hlt]]
    simp [Instr.sureAddr, fieldPlace, run_sizeOf_ok hin, his, hne, add_none, ho]
  · exact h.elim

theorem partF_ok {t : Nat} {d : TypeDesc} {inf : TypeInfo} (hu : P.underlying t = some d) (hin : P.info? t = some inf) {off size : Nat} (hs : inf.size = size) {cs : Array Value} {K' : Value → Prop}
    (h : partF (aggD d) size off cs.toList K') : ∃ v, (part t cs off).run P w = .ok v w ∧ K' v := by
  unfold partF at h
  rcases ifC_out h with ⟨ha, h⟩ | ⟨ha, h⟩
  · rw [dropF_iff, takeF_iff] at h
    refine ⟨_, ?_, h⟩
    simp only [part, Sem.run_bind, run_isAgg_ok hu, Result.andThen_ok, ha, if_true, run_sizeOf_ok hin, hs, Sem.run_pure]
    congr 2
    apply Array.toList_inj.1
    simp [Array.toList_extract, List.extract]
  · obtain ⟨v, hv, h⟩ := nthG_get h
    refine ⟨v, ?_, h⟩
    simp only [part, Sem.run_bind, run_isAgg_ok hu, Result.andThen_ok, ha]
    rw [show cs[off]? = some v by simpa using hv]
    rfl

theorem fieldF_ok (hT : Tab.okFrom P 0 T) {t : Nat} {x : Value} {f : Nat} {K' : Value → Prop} (h : fieldF T t x f K') : ∃ v, (Instr.field t x f).run P w = .ok v w ∧ K' v := by
  unfold fieldF at h
  obtain ⟨i, hi, h1⟩ := tab_get hT h
  clear h; have h := h1; clear h1
  split at h
  · rename_i fs cs hd
    have hu := hi.1; rw [hd] at hu
    obtain ⟨fields, hu, hsz, hf⟩ := hu
    obtain ⟨p, hp, h⟩ := nthG_get h
    have hlt : f < fields.size := by rw [hsz]; exact (List.getElem?_eq_some_iff.1 hp).1
    obtain ⟨p', inf, d, hp', ho, hne, hin, his, hud, hag⟩ := hf f fields[f] (by simp [hlt])
    rw [hp] at hp'
    obtain rfl := Option.some.inj hp'
    rw [← hag] at h
    obtain ⟨v, hv, hk⟩ := partF_ok (P := P) (w := w) hud hin his h
    refine ⟨v, ?_, hk⟩
    simp only [Instr.field, Sem.run_bind, run_underlying_ok hu, Result.andThen_ok]
    rw [show fields[f]? = some fields[f] by simp [hlt]]
    simp [asAgg, ho, hv]
  · exact h.elim

theorem indexAddrF_ok (hT : Tab.okFrom P 0 T) {t : Nat} {x j : Value} {K' : Value → Prop} (h : indexAddrF T t x j K') : ∃ v, (Instr.indexAt t x j).run P w = .ok v w ∧ K' v := by
  unfold indexAddrF at h
  obtain ⟨i, hi, h1⟩ := tab_get hT h
  clear h; have h := h1; clear h1
  split at h
  · rename_i e esz eb ez p n c k jj hd
    have hu := hi.1; rw [hd] at hu
    obtain ⟨hu, inf, zv, hin, his, _⟩ := hu
    obtain ⟨g, o, rfl, hb, h⟩ := h
    refine ⟨_, ?_, h⟩
    simp [Instr.indexAt, asIntOf, run_underlying_ok hu, hb, run_sizeOf_ok hin, his, add_none]
  · rename_i n esz ea g o k jj hd
    have hu := hi.1; rw [hd] at hu
    obtain ⟨e, inf, d, hu, hin, his, _⟩ := hu
    obtain ⟨hb, h⟩ := h
    refine ⟨_, ?_, h⟩
    simp [Instr.indexAt, asIntOf, Instr.sureAddr, run_underlying_ok hu, hb, run_sizeOf_ok hin, his, add_none]
  · exact h.elim

theorem indexF_ok (hT : Tab.okFrom P 0 T) {t : Nat} {x j : Value} {K' : Value → Prop} (h : indexF T t x j K') : ∃ v, (Instr.index t x j).run P w = .ok v w ∧ K' v := by
  unfold indexF at h
  obtain ⟨i, hi, h1⟩ := tab_get hT h
  clear h; have h := h1; clear h1
  split at h
  · rename_i n esz ea cs k jj hd
    have hu := hi.1; rw [hd] at hu
    obtain ⟨e, inf, d, hu, hin, his, _, hud, hag⟩ := hu
    obtain ⟨hb, h⟩ := h
    rw [← hag] at h
    obtain ⟨v, hv, hk⟩ := partF_ok (P := P) (w := w) hud hin his h
    refine ⟨v, ?_, hk⟩
    simp [Instr.index, asIntOf, run_underlying_ok hu, hb, run_sizeOf_ok hin, his, hv]
  · exact h.elim

theorem boundF_ok {x : Option Value} {d hi : Nat} {code : BoundsCode} {K' : Nat → Prop} (h : boundF x d hi K') :
    ∃ l, K' l ∧ ((x = none ∧ l = d) ∨ (∃ v, x = some v ∧ (Instr.sliceBound v hi code).run P w = .ok l w)) := by
  unfold boundF at h
  split at h
  · exact ⟨d, h, .inl ⟨rfl, rfl⟩⟩
  · rename_i k i
    obtain ⟨l, rfl, hl, h⟩ := h
    exact ⟨l, h, .inr ⟨_, rfl, by simp [Instr.sliceBound, asIntOf, hl]⟩⟩
  · exact h.elim

theorem sliceF_ok (hT : Tab.okFrom P 0 T) {t : Nat} {x : Value} {lo hi mx : Option Value} {K' : Value → Prop} (h : sliceF T t x lo hi mx K') :
    ∃ v, (Instr.sliceAt t x lo hi mx).run P w = .ok v w ∧ K' v := by
  unfold sliceF at h
  obtain ⟨i, hi', h1⟩ := tab_get hT h
  clear h; have h := h1; clear h1
  split at h
  · rename_i e esz eb ez p n cap hd
    have hu := hi'.1; rw [hd] at hu
    obtain ⟨hu, inf, zv, hin, his, _⟩ := hu
    split at h
    · exact h.elim
    rename_i hmx0
    have hmx : mx.isSome = true → hi.isSome = true := by
      intro hm
      cases mx with
      | none => cases hm
      | some m => cases hi with
        | none => exact absurd rfl (fun e => hmx0 m rfl e)
        | some _ => rfl
    obtain ⟨m, h, hm⟩ := boundF_ok (P := P) (w := w) (code := .slice3Acap) h
    obtain ⟨u, h, hh⟩ := boundF_ok (P := P) (w := w) (code := if mx.isSome then .slice3B else .sliceAcap) h
    obtain ⟨l, h, hl⟩ := boundF_ok (P := P) (w := w) (code := if mx.isSome then .slice3C else .sliceB) h
    refine ⟨_, ?_, h⟩
    have hsl : ∀ lo hi mx, Instr.sliceAt t (.slice p n cap) lo hi mx = (do
        match ← underlying t with
        | .array n elem =>
          let a ← Instr.sureAddr (.slice p n cap)
          let (l, h, m) ← Instr.sliceBounds false n n lo hi mx
          let size ← sizeOf elem
          pure (.slice (some (if m = l then a else a.add (l * size))) (h - l) (m - l))
        | _ => Instr.slice t (.slice p n cap) lo hi mx) := fun _ _ _ => rfl
    have hsl2 : ∀ lo hi mx, (Instr.sliceAt t (.slice p n cap) lo hi mx).run P w = ((Instr.sliceBounds true n cap lo hi mx).run P w).andThen fun r w' => .ok (.slice (subAddr p r.2.2 r.1 esz) (r.2.1 - r.1) (r.2.2 - r.1)) w' := by
      intro lo hi mx
      rw [hsl]
      simp only [Sem.run_bind, run_underlying_ok hu, Result.andThen_ok, Instr.slice]
      cases (Instr.sliceBounds true n cap lo hi mx).run P w with
      | ok r w' => simp [run_sizeOf_ok hin, his, subAddr]
      | halt => rfl
    rw [hsl2]
    rcases hm with ⟨rfl, rfl⟩ | ⟨vm, rfl, hm⟩
    · rcases hh with ⟨rfl, rfl⟩ | ⟨vh, rfl, hh⟩
      · rcases hl with ⟨rfl, rfl⟩ | ⟨vl, rfl, hl⟩
        · simp [Instr.sliceBounds]
        · simp only [Option.isSome_none, Bool.false_eq_true, if_false] at hl
          simp [Instr.sliceBounds, hl]
      · simp only [Option.isSome_none, Bool.false_eq_true, if_false] at hh
        rcases hl with ⟨rfl, rfl⟩ | ⟨vl, rfl, hl⟩
        · simp [Instr.sliceBounds, hh]
        · simp only [Option.isSome_none, Bool.false_eq_true, if_false] at hl
          simp [Instr.sliceBounds, hl, hh]
    · rcases hh with ⟨rfl, rfl⟩ | ⟨vh, rfl, hh⟩
      · simp at hmx
      · simp only [Option.isSome_some, if_true] at hh
        rcases hl with ⟨rfl, rfl⟩ | ⟨vl, rfl, hl⟩
        · simp [Instr.sliceBounds, hm, hh]
        · simp only [Option.isSome_some, if_true] at hl
          simp [Instr.sliceBounds, hm, hh, hl]
  · exact h.elim

end
end Go.Proofs.Ytohdcmkooedkcaa.A
