/- Append, copy, clear and maps: the operations do what is told of them; and so all operations. -/
import Derived.Test.YtohdcmkooedkcaaA5
import Derived.Laws.Append
namespace Go.Proofs.Ytohdcmkooedkcaa.A
open Go Go.RowKit
set_option linter.unusedVariables false
set_option linter.unusedSimpArgs false

section
variable {P : Program} {w0 w : World} {F : List Atom} {H : Hp} {K : Value → Hp → Prop} {E : List PanicEntry → Hp → Prop} {T : Tab}

theorem run_firstCells_reads {x : Value} {sz : Nat} {ys : List Value} (hr : RepF w0 F H w) (h : Reads H x sz ys) :
    ∃ p n c, x = .slice p n c ∧ ys.length = n * sz ∧ (Builtin.firstCells sz n x).run P w = .ok ys.toArray w ∧ (Builtin.firstCells sz n x).run P w.drew = .ok ys.toArray w.drew := by
  obtain ⟨p, n, c, rfl, _, hl, hc⟩ := h
  refine ⟨p, n, c, rfl, hl, ?_⟩
  by_cases h0 : n = 0
  · subst h0
    have : ys = [] := List.eq_nil_of_length_eq_zero (by simpa using hl)
    subst this
    cases p <;> simp [Builtin.firstCells, loadCells, loadCellsFrom]
  · obtain ⟨g, o, rfl, hcells⟩ := hc (by omega)
    have hc1 : ∀ j v, ys[j]? = some v → w.cell? ((⟨g, o, none⟩ : Addr).add j) = some v := fun j v hj => by rw [add_none]; exact hr.cell? (hcells j v hj)
    exact ⟨run_firstCells_some w sz n _ n c ys hl hc1, run_firstCells_some w.drew sz n _ n c ys hl (by simpa using hc1)⟩

theorem appendF_ok (hT : Tab.okFrom P 0 T) {t t' ty : Nat} {s x : Value} (hr : RepF w0 F H w) (h : appendF T t t' s x H K) :
    ∃ v w' H', (Builtin.append_ #[t, t'] ty #[s, x]).run P w = .ok v w' ∧ RepF w0 F H' w' ∧ K v H' := by
  unfold appendF at h
  rcases ifC_out h with ⟨htt, h1⟩ | ⟨_, h1⟩
  rotate_left
  · exact h1.elim
  obtain rfl := Nat.eq_of_beq_eq_true htt
  clear h htt
  obtain ⟨i, hi, h⟩ := tab_get hT h1
  clear h1
  split at h
  rotate_left
  · exact h.elim
  rename_i e esz eb ez hd
  have hu := hi.1; rw [hd] at hu
  obtain ⟨ht, inf, zv, hin, his, hib, hz, hzc, hzl, hpos⟩ := hu
  obtain ⟨M1, L1, xs, ys, hrd, h1c, hweak, hbytes, hmax, hk⟩ := h
  obtain ⟨p, m, c, rfl, hyl, hf, hfd⟩ := run_firstCells_reads (P := P) hr hrd
  have hr1 : Rep w0 ⟨M1, .row s e esz xs :: (L1 ++ F)⟩ w := hweak w0 F w hr
  have hrow := hr1.holds _ (List.mem_cons_self ..)
  have hm : m ≤ ys.length := by rw [hyl]; exact Nat.le_mul_of_pos_right _ hpos
  have hm63 : ys.length < 2 ^ 63 := by simp only [maxLen] at hmax; omega
  -- a new block
  have grown : ∀ (n old : Nat), xs.length = n * esz → old < n + m → Rep w0 ⟨M1, .row (.slice (some ⟨w.heap.size, 0, none⟩) (n + m) (grownCap w (n + m) old e)) e esz (xs ++ ys) :: (L1 ++ F)⟩
      (w.drew.alloc (.cells (xs.toArray ++ ys.toArray ++ Builtin.zeroCells zv.cells (grownCap w (n + m) old e - (n + m))) e)) ∧ RowVal (.slice (some ⟨w.heap.size, 0, none⟩) (n + m) (grownCap w (n + m) old e)) esz (xs ++ ys) := by
    intro n old hxl ho
    have hn : n ≤ xs.length := by rw [hxl]; exact Nat.le_mul_of_pos_right _ hpos
    have hge := grownCap_ge w (n + m) old e
    have hcm : grownCap w (n + m) old e ≤ maxLen := grownCap_le_maxLen w (n + m) old e (by simp only [maxLen] at hmax ⊢; omega)
    have hlen : (xs ++ ys).length = (n + m) * esz := by rw [List.length_append, hxl, hyl, Nat.add_mul]
    refine ⟨?_, .inr ⟨_, _, _, _, rfl, hlen, hge, hcm⟩⟩
    have hkeep : Keeps (fun _ => False) w (w.drew.alloc (.cells (xs.toArray ++ ys.toArray ++ Builtin.zeroCells zv.cells (grownCap w (n + m) old e - (n + m))) e)) :=
      (Keeps.drew _ w).trans (Keeps.alloc _ _ _)
    have := Rep.replace (i := 0) (a' := .row (.slice (some ⟨w.heap.size, 0, none⟩) (n + m) (grownCap w (n + m) old e)) e esz (xs ++ ys)) hr1 rfl (hkeep.mono fun _ e => e.elim) ?_ ?_
    · exact this
    · refine .inr ⟨w.heap.size, 0, n + m, _, xs.toArray ++ ys.toArray ++ Builtin.zeroCells zv.cells (grownCap w (n + m) old e - (n + m)), rfl, Array.getElem?_push_size, hge, hcm, ?_, hlen, fun j hj => ?_⟩
      · simp only [Array.size_append, List.size_toArray, size_zeroCells, hzc, hzl, hxl, hyl, ← Nat.add_mul]
        rw [Nat.zero_add]; exact Nat.mul_le_mul_right _ (by omega)
      · rw [Nat.zero_add, Array.getElem?_append_left (by simpa using hj)]
        rw [← Array.getElem?_toList]; simp
    · intro g hg
      right
      simp [Atom.foot] at hg; omega
  rcases hrow with ⟨rfl, rfl⟩ | ⟨g, o, n, cap, cur, rfl, hb, hnc, hcm, hsz, hxl, hcells⟩
  · by_cases h0 : m = 0
    · subst h0
      have : ys = [] := List.eq_nil_of_length_eq_zero (by simpa using hyl)
      subst this
      refine ⟨.slice none 0 0, w, _, ?_, ?_, hk _ (.inl ⟨rfl, rfl⟩)⟩
      · simp [Builtin.append_, run_underlying ht, sizeOf, typeInfo, hin, Builtin.lenOf, his, hf]
      · exact hr1
    · obtain ⟨hg1, hg2⟩ := grown 0 0 (by simp) (by omega)
      simp only [Nat.zero_add, List.nil_append] at hg1 hg2
      refine ⟨_, _, ⟨M1, _ :: L1⟩, ?_, hg1, hk _ hg2⟩
      have h63' : ¬ (9223372036854775807 < (m : Int)) := by omega
      have h48' : ¬ (281474976710656 < Builtin.nextslicecap m 0 * inf.bytes) := by
        rw [nextslicecap_zero (by omega), hib]
        have : m * eb ≤ ys.length * eb := Nat.mul_le_mul_right _ hm
        simp only [List.length_nil, Nat.zero_add] at hbytes
        omega
      simp [Builtin.append_, run_underlying ht, sizeOf, typeInfo, zeroValue, hin, hz, Builtin.lenOf, h0, h63', h48', Question.forced, run_firstCells_none, his, hfd, newRow, grownCap]
  · have hn : n ≤ xs.length := by rw [hxl]; exact Nat.le_mul_of_pos_right _ hpos
    by_cases hroom : n + m ≤ cap
    · have hmul : n * esz + m * esz ≤ cap * esz := by rw [← Nat.add_mul]; exact Nat.mul_le_mul_right _ hroom
      obtain ⟨w', c', hrun, hkk, hh, htl⟩ := run_storeCells_block (P := P) ys (o + n * esz) 0 cur w hb (by omega) h1c
      refine ⟨.slice (some ⟨g, o, none⟩) (n + m) cap, w', ⟨M1, .row (.slice (some ⟨g, o, none⟩) (n + m) cap) e esz (xs ++ ys) :: L1⟩, ?_, ?_, hk _ (.inr ⟨_, _, _, _, rfl, by rw [List.length_append, hxl, hyl, Nat.add_mul], hroom, hcm⟩)⟩
      · simp [Builtin.append_, run_underlying ht, sizeOf, typeInfo, hin, Builtin.lenOf, hroom, his, hf, add_none, hrun]
      · have := Rep.replace (i := 0) (a' := .row (.slice (some ⟨g, o, none⟩) (n + m) cap) e esz (xs ++ ys)) hr1 rfl (hkk.mono fun k e => by subst e; rfl) ?_ fun k hk => .inl hk
        · exact this
        · have hsize : c'.size = cur.size := by rw [← Array.length_toList, htl, setN_length]; simp
          refine .inr ⟨g, o, n + m, cap, c', rfl, hh, hroom, hcm, by omega, by rw [List.length_append, hxl, hyl, Nat.add_mul], fun j hj => ?_⟩
          rw [← Array.getElem?_toList, htl, Nat.add_zero, setN_getElem? _ _ _ _ (by simp; omega)]
          rw [List.length_append] at hj
          by_cases h3 : j < xs.length
          · rw [if_neg (by omega), List.getElem?_append_left h3]
            simpa using hcells j h3
          · rw [if_pos (by omega), List.getElem?_append_right (by omega)]
            congr 1; omega
    · obtain ⟨hg1, hg2⟩ := grown n cap hxl (by omega)
      refine ⟨_, _, ⟨M1, _ :: L1⟩, ?_, hg1, hk _ hg2⟩
      have hn' : ¬ (n + m ≤ cap) := hroom
      have h63' : ¬ (9223372036854775807 < ((n : Int) + (m : Int))) := by simp only [maxLen] at hmax; omega
      have h48' : ¬ (281474976710656 < Builtin.nextslicecap (n + m) cap * inf.bytes) := by
        have hle : (n + m) * eb ≤ (xs.length + ys.length) * eb := Nat.mul_le_mul_right _ (by omega)
        have := growslice_fits (need := n + m) (old := cap) (bytes := inf.bytes) (by omega) (by rw [hib]; omega)
        omega
      have hfo := run_firstCells_some (P := P) w.drew esz n ⟨g, o, none⟩ n cap xs hxl (by
        intro j v hj
        have hlt : j < xs.length := (List.getElem?_eq_some_iff.1 hj).1
        rw [add_none, World.cell?_drew]
        have := hcells j hlt
        simp [World.cell?, hb, this, hj])
      simp [Builtin.append_, run_underlying ht, sizeOf, typeInfo, zeroValue, hin, hz, Builtin.lenOf, hn', h63', h48', Question.forced, his, hfd, hfo, newRow, grownCap]
      congr 2
      apply Array.ext'
      simp [List.append_assoc]

theorem copyF_ok (hT : Tab.okFrom P 0 T) {t t' ty : Nat} {d x : Value} (hr : RepF w0 F H w) (h : copyF T t d x H K) :
    ∃ v w' H', (Builtin.copy_ #[t, t'] ty #[d, x]).run P w = .ok v w' ∧ RepF w0 F H' w' ∧ K v H' := by
  unfold copyF at h
  obtain ⟨i, hi, h1⟩ := tab_get hT h
  clear h
  split at h1
  rotate_left
  · exact h1.elim
  rename_i e esz eb ez hd
  have hu := hi.1; rw [hd] at hu
  obtain ⟨ht, inf, zv, hin, his, hib, hz, hzc, hzl, hpos⟩ := hu
  obtain ⟨i, xs, ys, n, m, c, p, p', c', hli, rfl, rfl, hmn, hrd, h1c, hk⟩ := h1
  obtain ⟨p2, m2, c2, hx, hyl, hf, _⟩ := run_firstCells_reads (P := P) hr hrd
  obtain ⟨rfl, rfl, rfl⟩ : p' = p2 ∧ m = m2 ∧ c' = c2 := by simpa using hx
  have hmin : Nat.min m n = m := Nat.min_eq_left hmn
  have hi' : (H.L ++ F)[i]? = some (.row (.slice p n c) e esz xs) := by rw [List.getElem?_append_left (List.getElem?_eq_some_iff.1 hli).1]; exact hli
  rcases hr.holds _ (List.mem_of_getElem? hi') with ⟨h2, hxs⟩ | ⟨g, o, n2, cap, cur, h2, hb, hnc, hcm, hsz, hxl, hcells⟩
  · obtain ⟨rfl, rfl, rfl⟩ : p = none ∧ n = 0 ∧ c = 0 := by simpa using h2
    obtain rfl : m = 0 := by omega
    have hys : ys = [] := List.eq_nil_of_length_eq_zero (by simpa using hyl)
    subst hys
    subst hxs
    refine ⟨.int .i64 0, w, ⟨H.M, H.L⟩, ?_, hr, ?_⟩
    · simp [Builtin.copy_, run_underlying ht, sizeOf, typeInfo, hin, Builtin.lenOf, his, hf, goInt]
    · have hset : H.L.set i (.row (.slice none 0 0) e esz []) = H.L := by
        apply List.ext_getElem?
        intro j
        rw [List.getElem?_set]
        by_cases hij : i = j
        · subst hij; simp [(List.getElem?_eq_some_iff.1 hli).1]; exact (List.getElem?_eq_some_iff.1 hli).2.symm
        · simp [hij]
      simp only [setN, hset] at hk
      exact hk
  · obtain ⟨rfl, rfl, rfl⟩ : p = some ⟨g, o, none⟩ ∧ n = n2 ∧ c = cap := by simpa using h2
    have hle : ys.length ≤ xs.length := by rw [hyl, hxl]; exact Nat.mul_le_mul_right _ hmn
    obtain ⟨w', hrun, hr'⟩ := storeTo_ok (P := P) (vs := ys) hr (.inr ⟨i, o, n, c, e, esz, xs, hli, Nat.le_refl o, by simpa using hle, rfl⟩) h1c
    rw [Nat.sub_self] at hr'
    refine ⟨.int .i64 m, w', _, ?_, hr', hk⟩
    simp [Builtin.copy_, run_underlying ht, sizeOf, typeInfo, hin, Builtin.lenOf, his, hf, goInt, hmin, hrun]

theorem clearF_ok (hT : Tab.okFrom P 0 T) {t ty : Nat} {x : Value} (hr : RepF w0 F H w) (h : clearF T t x H K) :
    ∃ v w' H', (Builtin.clear_ #[t] ty #[x]).run P w = .ok v w' ∧ RepF w0 F H' w' ∧ K v H' := by
  unfold clearF at h
  obtain ⟨i, hi, h1⟩ := tab_get hT h
  clear h
  split at h1
  rotate_left
  · exact h1.elim
  rename_i e esz eb ez p n c hd
  have hu := hi.1; rw [hd] at hu
  obtain ⟨ht, inf, zv, hin, his, hib, hz, hzc, hzl, hpos⟩ := hu
  obtain ⟨h1c, hh⟩ := h1
  by_cases h0 : n = 0
  · subst h0
    rcases hh with ⟨_, hk⟩ | ⟨g, o, L', rfl, hst, hk⟩
    · exact ⟨_, w, H, by cases p <;> simp [Builtin.clear_, run_underlying ht], hr, hk⟩
    · have : repZ 0 ez = [] := by simp [repZ]
      rw [this] at hst
      obtain ⟨w', hrun, hr'⟩ := storeTo_ok (P := P) hr hst (by simp)
      simp [storeCells] at hrun
      subst hrun
      exact ⟨_, w, _, by simp [Builtin.clear_, run_underlying ht], hr', hk⟩
  · rcases hh with ⟨h, _⟩ | ⟨g, o, L', rfl, hst, hk⟩
    · omega
    · have hone : ∀ v ∈ repZ n ez, v.oneCell' = true := by
        intro v hv
        unfold repZ at hv
        simp only [List.mem_flatten, List.mem_replicate] at hv
        obtain ⟨l, ⟨_, rfl⟩, hv⟩ := hv
        exact oneCells_mem h1c v hv
      obtain ⟨w', hrun, hr'⟩ := storeTo_ok (P := P) hr hst hone
      refine ⟨_, w', _, ?_, hr', hk⟩
      have hzeros : (Builtin.zeroCells zv.cells n).toList = repZ n ez := by
        rw [hzc]
        have := range_mod n ez (by omega)
        simp only [Builtin.zeroCells]
        simp only [List.size_toArray] at this ⊢
        rw [this]
      obtain ⟨n', rfl⟩ : ∃ n', n = n' + 1 := ⟨n - 1, by omega⟩
      simp [Builtin.clear_, run_underlying ht, run_zeroValue_ok hin hz, hzeros, hrun]

/-! ### Maps -/
theorem HasMap.heap {r : Nat} {m : List (Int × Value)} (hr : RepF w0 F H w) (h : HasMap H r m) : w.heap[r]? = some (imapObj m) := by
  rcases h with h | h
  · exact hr.M r _ h
  · exact hr.holds _ (List.mem_append_left _ h)

theorem run_getObj_map {r : Nat} {m : List (Int × Value)} (h : w.heap[r]? = some (imapObj m)) : (getObj r).run P w = .ok (imapObj m) w := by
  simp only [getObj, Sem.run, h]
  rfl

theorem findNow_imap (k : Int) : ∀ (m : List (Int × Value)) (n i : Nat), Instr.findNow (.int .i64) (.int .i64 k) (imapEs n m) i = some ((m.findIdx? fun p => decide (p.1 = k)).map fun j => (i + j, ((m[j]?).map (·.2)).getD undef)) := by
  intro m
  induction m with
  | nil => intros; rfl
  | cons p m ih =>
    intro n i
    obtain ⟨j, v⟩ := p
    simp only [imapEs, Instr.findNow, Instr.sameNow, if_true, List.findIdx?_cons]
    by_cases h : k = j
    · subst h; simp
    · have h1 : (k == j) = false := by simp [h]
      have h2 : decide (j = k) = false := by simp; exact fun e => h e.symm
      simp only [h1, h2, ih, Bool.false_eq_true, if_false, Option.map_map]
      congr 2
      funext x
      simp; omega

theorem find_findIdx (k : Int) (m : List (Int × Value)) : (m.find? fun p => decide (p.1 = k)).map (·.2) = (m.findIdx? fun p => decide (p.1 = k)).map fun j => ((m[j]?).map (·.2)).getD undef := by
  induction m with
  | nil => rfl
  | cons p m ih =>
    simp only [List.find?_cons, List.findIdx?_cons]
    by_cases h : p.1 = k
    · simp [h]
    · simp only [h, decide_false, Bool.false_eq_true, if_false, Option.map_map]
      rw [ih]
      cases (m.findIdx? fun p => decide (p.1 = k)) <;> simp

theorem checkKey_int {e : Bool} {n kt : Nat} {k : Int} (hk : P.underlying kt = some (.int .i64)) : (Instr.checkKey e (n + 1) kt (.int .i64 k)).run P w = .ok () w := by
  simp [Instr.checkKey, run_underlying_ok hk]

theorem lookupF_ok (hT : Tab.okFrom P 0 T) {t : Nat} {m k : Value} {ok : Bool} {K' : Value → Prop} (hr : RepF w0 F H w) (h : lookupF T t m k ok H K') :
    ∃ v, (Instr.lookup t m k ok).run P w = .ok v w ∧ K' v := by
  unfold lookupF at h
  obtain ⟨i, hi, h1⟩ := tab_get hT h
  clear h
  split at h1
  · rename_i kt e ez r kk hd
    have hu := hi.1; rw [hd] at hu
    obtain ⟨ht, hkt, inf, hin, hz⟩ := hu
    obtain ⟨es, hm, h⟩ := h1
    have hfk : (Instr.findKey kt (.int .i64 kk) (imapEs 0 es)).run P w = .ok ((es.findIdx? fun p => decide (p.1 = kk)).map fun j => (0 + j, ((es[j]?).map (·.2)).getD undef)) w := by
      simp only [Instr.findKey, Sem.run_bind, run_underlying_ok hkt, Result.andThen_ok, findNow_imap]
      rfl
    have hck : ∀ e, (Instr.checkKey e 10000 kt (.int .i64 kk)).run P w = .ok () w := fun e => checkKey_int (n := 9999) hkt
    have hres : (Instr.lookup t (.map (some r)) (.int .i64 kk) ok).run P w = .ok (if ok then .tuple #[(mLook es kk).getD ez, .bool (mLook es kk).isSome] else (mLook es kk).getD ez) w := by
      unfold mLook
      rw [find_findIdx]
      simp only [Instr.lookup, Sem.run_bind, run_underlying_ok ht, Result.andThen_ok, run_getObj_map (hm.heap hr), imapObj, Sem.run_pure, hck, hfk]
      cases (es.findIdx? fun p => decide (p.1 = kk)) with
      | none => simp [run_zeroValue_ok hin hz]
      | some j => simp
    refine ⟨_, hres, ?_⟩
    cases ok <;> exact h
  · rename_i kt e ez kk hd
    have hu := hi.1; rw [hd] at hu
    obtain ⟨ht, hkt, inf, hin, hz⟩ := hu
    have hck : ∀ e, (Instr.checkKey e 10000 kt (.int .i64 kk)).run P w = .ok () w := fun e => checkKey_int (n := 9999) hkt
    have hres : (Instr.lookup t (.map none) (.int .i64 kk) ok).run P w = .ok (if ok then .tuple #[ez, .bool false] else ez) w := by
      simp only [Instr.lookup, Sem.run_bind, run_underlying_ok ht, Result.andThen_ok, Sem.run_pure, hck, Instr.findKey, run_underlying_ok hkt]
      simp [Instr.findNow, run_zeroValue_ok hin hz]
    refine ⟨_, hres, ?_⟩
    cases ok <;> exact h1
  · exact h1.elim

theorem imapEs_length : ∀ (m : List (Int × Value)) (n : Nat), (imapEs n m).length = m.length
  | [], _ => rfl
  | (k, v) :: m, n => by simp [imapEs, imapEs_length m]

theorem imapEs_get (n : Nat) : ∀ (m : List (Int × Value)) (j : Nat), (imapEs n m)[j]? = (m[j]?).map fun p => ⟨.int .i64 p.1, p.2, n + j⟩ := by
  intro m
  induction m generalizing n with
  | nil => intro j; simp [imapEs]
  | cons p m ih =>
    intro j
    obtain ⟨k, v⟩ := p
    cases j with
    | zero => simp [imapEs]
    | succ j => simp only [imapEs, List.getElem?_cons_succ, ih]; congr 1; funext p; congr 1; omega

theorem imapEs_snoc : ∀ (m : List (Int × Value)) (n : Nat) (k : Int) (v : Value), imapEs n (m ++ [(k, v)]) = imapEs n m ++ [⟨.int .i64 k, v, n + m.length⟩] := by
  intro m
  induction m with
  | nil => intros; simp [imapEs]
  | cons p m ih =>
    intro n k v
    obtain ⟨j, u⟩ := p
    simp only [List.cons_append, imapEs, ih, List.length_cons]
    rw [show n + 1 + m.length = n + (m.length + 1) by omega]

theorem mUpd_some {k : Int} {v : Value} : ∀ {m : List (Int × Value)} {j : Nat}, (m.findIdx? fun p => decide (p.1 = k)) = some j → mUpd m k v = m.set j (k, v)
  | [], j, h => by simp at h
  | (i, u) :: m, j, h => by
    simp only [List.findIdx?_cons] at h
    by_cases hk : i = k
    · simp [hk] at h; subst h; simp [mUpd, hk]
    · simp only [hk, decide_false, Bool.false_eq_true, if_false, Option.map_eq_some_iff] at h
      obtain ⟨j', h, rfl⟩ := h
      simp [mUpd, hk, mUpd_some h]

theorem mUpd_none {k : Int} {v : Value} : ∀ {m : List (Int × Value)}, (m.findIdx? fun p => decide (p.1 = k)) = none → mUpd m k v = m ++ [(k, v)]
  | [], h => rfl
  | (i, u) :: m, h => by
    simp only [List.findIdx?_cons] at h
    by_cases hk : i = k
    · simp [hk] at h
    · simp only [hk, decide_false, Bool.false_eq_true, if_false, Option.map_eq_none_iff] at h
      simp [mUpd, hk, mUpd_none h]

theorem run_setObj_map {r : Nat} {m : List (Int × Value)} {o : Obj} (h : w.heap[r]? = some (imapObj m)) : (setObj r o).run P w = .ok () { w with heap := w.heap.setIfInBounds r o } := by
  simp only [setObj, Sem.run, h]
  rfl

theorem rep_setObj {r i : Nat} {o o' : Obj} (hr : RepF w0 F H w) (hi : H.L[i]? = some (.obj r o)) : RepF w0 F ⟨H.M, H.L.set i (.obj r o')⟩ { w with heap := w.heap.setIfInBounds r o' } := by
  have hi' : (H.L ++ F)[i]? = some (.obj r o) := by rw [List.getElem?_append_left (List.getElem?_eq_some_iff.1 hi).1]; exact hi
  have hlt : i < H.L.length := (List.getElem?_eq_some_iff.1 hi).1
  have hb : w.heap[r]? = some o := hr.holds _ (List.mem_of_getElem? hi')
  have hrl : r < w.heap.size := (Array.getElem?_eq_some_iff.1 hb).1
  have hk : Keeps (fun k => k = r) w { w with heap := w.heap.setIfInBounds r o' } :=
    ⟨rfl, rfl, rfl, by simp, fun k _ hk => by simp only [Array.getElem?_setIfInBounds]; rw [if_neg (Ne.symm hk)]⟩
  have := Rep.replace (a' := .obj r o') hr hi' (hk.mono fun k e => by subst e; rfl) ?_ fun k hk => .inl hk
  · unfold RepF; rw [← List.set_append_left _ _ hlt]; exact this
  · show (w.heap.setIfInBounds r o')[r]? = some o'
    simp [hrl]

theorem mapUpdateF_ok (hT : Tab.okFrom P 0 T) {t : Nat} {m k v : Value} {K' : Hp → Prop} (hr : RepF w0 F H w) (h : mapUpdateF T t m k v H K') :
    ∃ w' H', (Instr.mapUpdate t m k v).run P w = .ok () w' ∧ RepF w0 F H' w' ∧ K' H' := by
  unfold mapUpdateF at h
  obtain ⟨i, hi, h1⟩ := tab_get hT h
  clear h
  split at h1
  · rename_i kt e ez r kk hd
    have hu := hi.1; rw [hd] at hu
    obtain ⟨ht, hkt, inf, hin, hz⟩ := hu
    obtain ⟨i, es, hli, hk⟩ := h1
    have hheap : w.heap[r]? = some (imapObj es) := hr.holds (.obj r (imapObj es)) (List.mem_append_left _ (List.mem_of_getElem? hli))
    have hfk : (Instr.findKey kt (.int .i64 kk) (imapEs 0 es)).run P w = .ok ((es.findIdx? fun p => decide (p.1 = kk)).map fun j => (0 + j, ((es[j]?).map (·.2)).getD undef)) w := by
      simp only [Instr.findKey, Sem.run_bind, run_underlying_ok hkt, Result.andThen_ok, findNow_imap]
      rfl
    have hck : ∀ e, (Instr.checkKey e 10000 kt (.int .i64 kk)).run P w = .ok () w := fun e => checkKey_int (n := 9999) hkt
    refine ⟨_, _, ?_, rep_setObj (o' := imapObj (mUpd es kk v)) hr hli, hk⟩
    simp only [Instr.mapUpdate, Sem.run_bind, run_underlying_ok ht, Result.andThen_ok, run_getObj_map hheap, imapObj, hck, hfk]
    cases hidx : (es.findIdx? fun p => decide (p.1 = kk)) with
    | none =>
      simp only [Option.map_none]
      have := mUpd_none (v := v) hidx
      rw [run_setObj_map hheap, this, imapEs_snoc]
      simp
    | some j =>
      have hjlt : j < es.length := (List.findIdx?_eq_some_iff_findIdx_eq.1 hidx).1
      have hjk : (es[j]'hjlt).1 = kk := by
        have := List.findIdx?_eq_some_iff_getElem.1 hidx
        obtain ⟨_, h2, _⟩ := this
        simpa using h2
      have hkey : (((imapEs 0 es).toArray[j]?).map (·.key)).getD (.int .i64 kk) = .int .i64 kk := by
        simp [imapEs_get, List.getElem?_eq_getElem hjlt, hjk]
      have hstay : (Instr.keyThatStays (.int .i64 kk) (.int .i64 kk)).run P w = .ok (.int .i64 kk) w := by
        simp [Instr.keyThatStays, Instr.sameBits]
      simp only [Option.map_some, Nat.zero_add, hkey, Sem.run_bind, hstay, Result.andThen_ok]
      rw [run_setObj_map hheap, mUpd_some (v := v) hidx]
      congr 4
      · apply Array.toList_inj.1
        apply List.ext_getElem?
        intro x
        simp only [Array.getElem?_toList, Array.getElem?_modify, List.getElem?_toArray, imapEs_get, List.getElem?_set]
        by_cases hx : j = x
        · subst hx; simp [hjlt]
        · simp [hx]
      · simp
  · exact h1.elim

theorem lenF_ok (hT : Tab.okFrom P 0 T) {t ty : Nat} {x : Value} {K' : Value → Prop} (hr : RepF w0 F H w) (h : lenF T t x H K') :
    ∃ v, (Builtin.len_ #[t] ty #[x]).run P w = .ok v w ∧ K' v := by
  unfold lenF at h
  obtain ⟨i, hi, h1⟩ := tab_get hT h
  clear h
  split at h1
  · rename_i s hd
    have hu := hi.1; rw [hd] at hu
    exact ⟨_, by simp [Builtin.len_, run_underlying_ok (show P.underlying t = _ from hu), goInt], h1⟩
  · rename_i e a b c p n cc hd
    have hu := hi.1; rw [hd] at hu
    exact ⟨_, by simp [Builtin.len_, run_underlying_ok hu.1, goInt], h1⟩
  · rename_i kt e ez hd
    have hu := hi.1; rw [hd] at hu
    exact ⟨_, by simp [Builtin.len_, run_underlying_ok hu.1, goInt], h1⟩
  · rename_i kt e ez r hd
    have hu := hi.1; rw [hd] at hu
    obtain ⟨es, hm, hk⟩ := h1
    refine ⟨_, ?_, hk⟩
    have := run_getObj_map (P := P) (hm.heap hr)
    simp [Builtin.len_, run_underlying_ok hu.1, goInt, this, imapObj, imapEs_length]
  · exact h1.elim

theorem typeAssertF_ok (hT : Tab.okFrom P 0 T) {x : Value} {xt a : Nat} {ok : Bool} {K' : Value → Prop} (h : typeAssertF T x a ok K') :
    ∃ v, (Instr.typeAssert x xt a ok).run P w = .ok v w ∧ K' v := by
  unfold typeAssertF at h
  obtain ⟨i, hi, h1⟩ := tab_get hT h
  clear h
  obtain ⟨hu, ⟨inf, zv, hin, _, hzv, _, _, hzi⟩, _⟩ := hi
  have hz : (zeroValue a).run P w = .ok i.zv w := by rw [← hzi]; exact run_zeroValue_ok hin hzv
  split at h1
  · rename_i k hd
    rw [hd] at hu
    have hu : P.underlying a = some (.int k) := hu
    split at h1
    · exact ⟨_, by simp [Instr.typeAssert, run_underlying_ok hu, hz], h1⟩
    · rename_i t v
      rcases ifC_out h1 with ⟨ht, h⟩ | ⟨ht, h⟩
      · have ht := Nat.eq_of_beq_eq_true ht
        exact ⟨_, by simp [Instr.typeAssert, run_underlying_ok hu, ht], h⟩
      · have ht : t ≠ a := Nat.ne_of_beq_eq_false ht
        exact ⟨_, by simp [Instr.typeAssert, run_underlying_ok hu, ht, hz], h⟩
    · exact h1.elim
  · exact h1.elim

end
end Go.Proofs.Ytohdcmkooedkcaa.A
