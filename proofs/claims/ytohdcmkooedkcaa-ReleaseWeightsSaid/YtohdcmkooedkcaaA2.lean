/- What an operation does, told by what it asks of the memory that is told: computed by unfolding. -/
import Derived.Test.YtohdcmkooedkcaaA1
namespace Go.Proofs.Ytohdcmkooedkcaa.A
open Go Go.RowKit
set_option linter.unusedVariables false
set_option linter.unusedSimpArgs false

/-! ### Types -/
inductive TD where
  | int (k : IntKind) | bool | str | ptr | func | iface
  | slice (e esz ebytes : Nat) (ez : List Value)
  | arr (n esz : Nat) (eagg : Bool)
  | map (k e : Nat) (ez : Value)
  | struct (fs : List (Nat × Nat × Bool))
structure TI where
  d : TD
  size : Nat
  z : List Value
  pair : Bool := false
def TD.agg : TD → Bool
  | .struct _ | .arr .. => true
  | _ => false
def aggD : TypeDesc → Bool
  | .struct _ | .array _ _ => true
  | _ => false
def TD.ok (P : Program) (t : TypeId) : TD → Prop
  | .int k => P.underlying t = some (.int k)
  | .bool => P.underlying t = some .bool
  | .str => P.underlying t = some .string
  | .ptr => ∃ (e : TypeId) (i : TypeInfo), P.underlying t = some (.pointer e) ∧ P.info? e = some i ∧ i.size ≠ 0
  | .func => ∃ (a b : Array TypeId) (c : Bool), P.underlying t = some (.func a b c)
  | .iface => ∃ ms, P.underlying t = some (.interface ms)
  | .slice e esz ebytes ez => P.underlying t = some (.slice e) ∧ ∃ (i : TypeInfo) (zv : Value), P.info? e = some i ∧ i.size = esz ∧ i.bytes = ebytes ∧ i.zero = some zv ∧ zv.cells = ez.toArray ∧ ez.length = esz ∧ 0 < esz
  | .arr n esz eagg => ∃ (e : TypeId) (i : TypeInfo) (d : TypeDesc), P.underlying t = some (.array n e) ∧ P.info? e = some i ∧ i.size = esz ∧ 0 < esz ∧ P.underlying e = some d ∧ aggD d = eagg
  | .map k e ez => P.underlying t = some (.map k e) ∧ P.underlying k = some (.int .i64) ∧ ∃ (i : TypeInfo), P.info? e = some i ∧ i.zero = some ez
  | .struct fs => ∃ fields : Array Field, P.underlying t = some (.struct fields) ∧ fields.size = fs.length ∧
      ∀ (j : Nat) (f : Field), fields[j]? = some f → ∃ (p : Nat × Nat × Bool) (i : TypeInfo) (d : TypeDesc), fs[j]? = some p ∧ f.offset = p.1 ∧ p.2.1 ≠ 0 ∧ P.info? f.type = some i ∧ i.size = p.2.1 ∧ P.underlying f.type = some d ∧ aggD d = p.2.2
/-- A struct of two ints, that '==' compares field by field. -/
def PairOk (P : Program) (t : TypeId) : Prop :=
  P.stoodInHeld t = false ∧ P.eqGuardType P.depth t = false ∧ ∃ f0 f1 : Field, P.underlying t = some (.struct #[f0, f1]) ∧ f0.offset = 0 ∧ f1.offset = 1 ∧ (f0.name = "_") = False ∧ (f1.name = "_") = False ∧
    P.underlying f0.type = some (.int .i64) ∧ P.underlying f1.type = some (.int .i64)
def TI.zv (i : TI) : Value :=
  match i.d.agg with
  | true => .agg i.z.toArray
  | false => i.z.headD undef
def TI.ok (P : Program) (t : TypeId) (i : TI) : Prop :=
  i.d.ok P t ∧ (∃ (info : TypeInfo) (zv : Value), P.info? t = some info ∧ info.size = i.size ∧ info.zero = some zv ∧ zv.cells = i.z.toArray ∧ i.z.length = i.size ∧ zv = i.zv) ∧ (i.pair = true → PairOk P t)
abbrev Tab := List (Option TI)
def Tab.okFrom (P : Program) : Nat → Tab → Prop
  | _, [] => True
  | n, none :: r => Tab.okFrom P (n + 1) r
  | n, some i :: r => i.ok P n ∧ Tab.okFrom P (n + 1) r
theorem Tab.okFrom_get {P : Program} : ∀ (T : Tab) (n t : Nat) (i : TI), Tab.okFrom P n T → T[t]? = some (some i) → i.ok P (n + t)
  | [], _, _, _, _, h => by simp at h
  | none :: r, n, 0, i, _, h => by simp at h
  | none :: r, n, t + 1, i, hk, h => by have := Tab.okFrom_get r (n + 1) t i hk (by simpa using h); rwa [show n + 1 + t = n + (t + 1) by omega] at this
  | some j :: r, n, 0, i, hk, h => by simp at h; subst h; exact hk.1
  | some j :: r, n, t + 1, i, hk, h => by have := Tab.okFrom_get r (n + 1) t i hk.2 (by simpa using h); rwa [show n + 1 + t = n + (t + 1) by omega] at this
def tyF : Tab → Nat → (TI → Prop) → Prop
  | [], _, _ => False
  | none :: _, 0, _ => False
  | some i :: _, 0, K => K i
  | _ :: r, n + 1, K => tyF r n K
theorem tyF_get : ∀ {T : Tab} {t : Nat} {K : TI → Prop}, tyF T t K → ∃ i, T[t]? = some (some i) ∧ K i
  | [], _, _, h => h.elim
  | none :: _, 0, _, h => h.elim
  | some i :: _, 0, K, h => ⟨i, rfl, h⟩
  | none :: r, n + 1, K, h => by obtain ⟨i, h1, h2⟩ := tyF_get (T := r) (t := n) h; exact ⟨i, by simpa using h1, h2⟩
  | some _ :: r, n + 1, K, h => by obtain ⟨i, h1, h2⟩ := tyF_get (T := r) (t := n) h; exact ⟨i, by simpa using h1, h2⟩

/-! ### Frames -/
def nthF : List Value → Nat → (Value → Prop) → Prop
  | [], _, K => K undef
  | v :: _, 0, K => K v
  | _ :: l, n + 1, K => nthF l n K
theorem nthF_iff : ∀ {l : List Value} {n : Nat} {K : Value → Prop}, nthF l n K ↔ K (l.getD n undef)
  | [], _, _ => by simp [nthF]
  | v :: _, 0, _ => by simp [nthF]
  | _ :: l, n + 1, K => by simp only [nthF]; rw [nthF_iff]; simp
def putF : List Value → Nat → Value → (List Value → Prop) → Prop
  | [], _, _, K => K []
  | _ :: l, 0, v, K => K (v :: l)
  | x :: l, n + 1, v, K => putF l n v fun l' => K (x :: l')
theorem putF_iff : ∀ {l : List Value} {n : Nat} {v : Value} {K : List Value → Prop}, putF l n v K ↔ K (l.set n v)
  | [], _, _, _ => by simp [putF]
  | _ :: l, 0, v, K => by simp [putF]
  | x :: l, n + 1, v, K => by simp only [putF]; rw [putF_iff]; simp
def evL (fr : List Value) : Operand → Value
  | .tmp t => fr.getD t undef
  | .const v => v
  | .global g => .pointer (some ⟨g, 0, none⟩)
  | .func f => .func (.func f) #[] #[]
theorem evL_eq (fr : List Value) (ds : List Deferred) : (Act.mk fr.toArray ds).eval = evL fr := by
  funext x; cases x <;> simp [Act.eval, evL]
def evF (fr : List Value) : Operand → (Value → Prop) → Prop
  | .tmp t, K => nthF fr t K
  | .const v, K => K v
  | .global g, K => K (.pointer (some ⟨g, 0, none⟩))
  | .func f, K => K (.func (.func f) #[] #[])
theorem evF_iff {fr : List Value} {x : Operand} {K : Value → Prop} : evF fr x K ↔ K (evL fr x) := by
  cases x <;> simp [evF, evL, nthF_iff]
def evsF (fr : List Value) : List Operand → (List Value → Prop) → Prop
  | [], K => K []
  | o :: l, K => evF fr o fun v => evsF fr l fun vs => K (v :: vs)
theorem evsF_iff {fr : List Value} : ∀ {l : List Operand} {K : List Value → Prop}, evsF fr l K ↔ K (l.map (evL fr))
  | [], K => by simp [evsF]
  | o :: l, K => by simp only [evsF]; rw [evF_iff, evsF_iff]; simp
def evpF (fr : List Value) : List (Nat × Operand) → (List (Nat × Value) → Prop) → Prop
  | [], K => K []
  | (i, o) :: l, K => evF fr o fun v => evpF fr l fun vs => K ((i, v) :: vs)
theorem evpF_iff {fr : List Value} : ∀ {l : List (Nat × Operand)} {K : List (Nat × Value) → Prop}, evpF fr l K ↔ K (l.map fun p => (p.1, evL fr p.2))
  | [], K => by simp [evpF]
  | (i, o) :: l, K => by simp only [evpF]; rw [evF_iff, evpF_iff]; simp
def cellsF : Value → (List Value → Prop) → Prop
  | .agg cs, K => K cs.toList
  | v, K => K [v]
theorem cellsF_iff {v : Value} {K : List Value → Prop} : cellsF v K ↔ K v.cells.toList := by cases v <;> simp [cellsF, Value.cells]

/-! ### Choices -/
def ifC : Bool → Prop → Prop → Prop
  | true, A, _ => A
  | false, _, B => B
theorem ifC_dec {p : Prop} [Decidable p] {A B : Prop} (h1 : p → A) (h2 : ¬ p → B) : ifC (decide p) A B := by
  by_cases h : p <;> simp [h, ifC, h1, h2]
theorem ifC_pos {p : Prop} [Decidable p] {A B : Prop} (h : p) (h1 : A) : ifC (decide p) A B := by simp [h, ifC, h1]
theorem ifC_neg {p : Prop} [Decidable p] {A B : Prop} (h : ¬ p) (h1 : B) : ifC (decide p) A B := by simp [h, ifC, h1]
theorem ifC_cases {b : Bool} {A B : Prop} (h1 : b = true → A) (h2 : b = false → B) : ifC b A B := by cases b <;> simp [ifC, h1, h2]
theorem ifC_t {b : Bool} {A B : Prop} (h : b = true) (h1 : A) : ifC b A B := by simp [h, ifC, h1]
theorem ifC_f {b : Bool} {A B : Prop} (h : b = false) (h1 : B) : ifC b A B := by simp [h, ifC, h1]
theorem ifC_out {b : Bool} {A B : Prop} (h : ifC b A B) : (b = true ∧ A) ∨ (b = false ∧ B) := by cases b <;> simp_all [ifC]

/-! ### Memory -/
def Atom.cell : Atom → Nat → Nat → Value → Prop
  | .cells g _ cs, g', i, v => g' = g ∧ cs[i]? = some v
  | .row (.slice (some a) _ _) _ _ xs, g', i, v => g' = a.block ∧ a.off ≤ i ∧ xs[i - a.off]? = some v
  | _, _, _, _ => False
def MCell (M : Nat → Option Obj) (g i : Nat) (v : Value) : Prop := ∃ c e fz, M g = some (.cells c e fz) ∧ c[i]? = some v
def Hp.cell (H : Hp) (g i : Nat) (v : Value) : Prop := MCell H.M g i v ∨ ∃ a ∈ H.L, a.cell g i v
def CellsAt (H : Hp) (g o : Nat) (vs : List Value) : Prop := ∀ j v, vs[j]? = some v → H.cell g (o + j) v
/-- x is a slice with these cells. -/
def Reads (H : Hp) (x : Value) (sz : Nat) (xs : List Value) : Prop :=
  ∃ p n c, x = .slice p n c ∧ n ≤ c ∧ xs.length = n * sz ∧ (0 < n → ∃ g o, p = some ⟨g, o, none⟩ ∧ CellsAt H g o xs)
def setN : List Value → Nat → List Value → List Value
  | cs, _, [] => cs
  | cs, o, v :: vs => setN (cs.set o v) (o + 1) vs
/-- Cells of a piece that is owned are written. -/
def StoreTo (L : List Atom) (g o : Nat) (vs : List Value) (L' : List Atom) : Prop :=
  (∃ i e cs, L[i]? = some (.cells g e cs) ∧ o + vs.length ≤ cs.length ∧ L' = L.set i (.cells g e (setN cs o vs))) ∨
  (∃ i o' n cap e sz xs, L[i]? = some (.row (.slice (some ⟨g, o', none⟩) n cap) e sz xs) ∧ o' ≤ o ∧ (o - o') + vs.length ≤ xs.length ∧
    L' = L.set i (.row (.slice (some ⟨g, o', none⟩) n cap) e sz (setN xs (o - o') vs)))
def repZ (n : Nat) (z : List Value) : List Value := (List.replicate n z).flatten

/-! ### Maps with int keys -/
def imapEs : Nat → List (Int × Value) → List MapEntry
  | _, [] => []
  | n, (k, v) :: r => ⟨.int .i64 k, v, n⟩ :: imapEs (n + 1) r
def imapObj (m : List (Int × Value)) : Obj := .map (imapEs 0 m).toArray m.length
def mLook (m : List (Int × Value)) (k : Int) : Option Value := (m.find? fun p => decide (p.1 = k)).map (·.2)
def mUpd : List (Int × Value) → Int → Value → List (Int × Value)
  | [], k, v => [(k, v)]
  | (j, u) :: r, k, v => if j = k then (k, v) :: r else (j, u) :: mUpd r k v
def HasMap (H : Hp) (r : Nat) (m : List (Int × Value)) : Prop := H.M r = some (imapObj m) ∨ Atom.obj r (imapObj m) ∈ H.L

/-! ### Operations -/
def intBinF (op : BinOp) (k : IntKind) (m n : Int) (K : Value → Prop) : Prop :=
  match op with
  | .add => ∃ r, r = k.wrap (m + n) ∧ K (.int k r)
  | .sub => ∃ r, r = k.wrap (m - n) ∧ K (.int k r)
  | .mul => ∃ r, r = k.wrap (m * n) ∧ K (.int k r)
  | .quo => n ≠ 0 ∧ ∃ r, r = k.wrap (m.tdiv n) ∧ K (.int k r)
  | .rem => n ≠ 0 ∧ ∃ r, r = m.tmod n ∧ K (.int k r)
  | .eql => K (.bool (decide (m = n)))
  | .neq => K (.bool (decide (m ≠ n)))
  | .lss => K (.bool (decide (m < n)))
  | .leq => K (.bool (decide (m ≤ n)))
  | .gtr => K (.bool (decide (n < m)))
  | .geq => K (.bool (decide (n ≤ m)))
  | _ => False
def shiftF (op : BinOp) (k : IntKind) (m n : Int) (K : Value → Prop) : Prop :=
  match op with
  | .shl => 0 ≤ n ∧ ∃ r, r = k.wrap (m * 2 ^ (min n.toNat k.bits)) ∧ K (.int k r)
  | .shr => 0 ≤ n ∧ ∃ r, r = m.fdiv (2 ^ (min n.toNat k.bits)) ∧ K (.int k r)
  | _ => False
def sameK : IntKind → IntKind → Bool
  | .i64, .i64 | .i32, .i32 | .i16, .i16 | .i8, .i8 | .u64, .u64 | .u32, .u32 | .u16, .u16 | .u8, .u8 => true
  | _, _ => false
theorem sameK_eq {a b : IntKind} (h : sameK a b = true) : a = b := by cases a <;> cases b <;> first | rfl | (simp [sameK] at h)
def isShift : BinOp → Bool
  | .shl | .shr => true
  | _ => false
def eqB (op : BinOp) (b : Bool) (K : Value → Prop) : Prop :=
  match op with
  | .eql => K (.bool b)
  | .neq => K (.bool (!b))
  | _ => False
/-- '==' between structs of whole numbers. -/
def eqCellsF : List Value → List Value → (Bool → Prop) → Prop
  | [.int .i64 a, .int .i64 b], [.int .i64 c, .int .i64 d], K => K (decide (a = c) && decide (b = d))
  | _, _, _ => False
def binF (T : Tab) (op : BinOp) (t : Nat) (x y : Value) (K : Value → Prop) : Prop :=
  match x, y with
  | .int k m, .int k' n => ifC (isShift op) (shiftF op k m n K) (ifC (sameK k k') (intBinF op k m n K) False)
  | .bool a, .bool b => tyF T t fun i => match i.d with | .bool => eqB op (a == b) K | _ => False
  | .pointer p, .pointer none => tyF T t fun i => match i.d with | .ptr => eqB op p.isNone K | _ => False
  | .slice p _ _, .slice none _ _ => tyF T t fun i => match i.d with | .slice .. => eqB op p.isNone K | _ => False
  | .map r, .map none => tyF T t fun i => match i.d with | .map .. => eqB op r.isNone K | _ => False
  | .agg a, .agg b => tyF T t fun i => ifC i.pair (eqCellsF a.toList b.toList fun r => eqB op r K) False
  | _, _ => False
def unF (op : UnOp) (x : Value) (K : Value → Prop) : Prop :=
  match op, x with
  | .neg, .int k m => ∃ r, r = k.wrap (0 - m) ∧ K (.int k r)
  | .not, .bool b => K (.bool (!b))
  | _, _ => False
def convF (T : Tab) (s d : Nat) (x : Value) (K : Value → Prop) : Prop :=
  tyF T s fun i => tyF T d fun j => match i.d, j.d, x with
    | .int _, .int k, .int _ n => ∃ r, r = k.wrap n ∧ K (.int k r)
    | _, _, _ => False
def pickF (c : Value) (A B : Prop) : Prop :=
  match c with
  | .bool b => ifC b A B
  | _ => False
def leF (a b : Nat) (A : Prop) : Prop := ifC (Nat.ble a b) A False
def eqF (a b : Nat) (A : Prop) : Prop := ifC (Nat.beq a b) A False
def setNF : List Value → Nat → List Value → (List Value → Prop) → Prop
  | cs, _, [], K => K cs
  | cs, o, v :: vs, K => putF cs o v fun cs' => setNF cs' (o + 1) vs K
theorem setNF_iff : ∀ {vs cs : List Value} {o : Nat} {K : List Value → Prop}, setNF cs o vs K ↔ K (setN cs o vs)
  | [], _, _, _ => by simp [setNF, setN]
  | v :: vs, cs, o, K => by simp only [setNF, setN]; rw [putF_iff, setNF_iff]
def nthG {α : Type} : List α → Nat → (α → Prop) → Prop
  | [], _, _ => False
  | v :: _, 0, K => K v
  | _ :: l, n + 1, K => nthG l n K
theorem nthG_get {α : Type} : ∀ {l : List α} {n : Nat} {K : α → Prop}, nthG l n K → ∃ v, l[n]? = some v ∧ K v
  | [], _, _, h => h.elim
  | v :: _, 0, _, h => ⟨v, rfl, h⟩
  | _ :: l, n + 1, K, h => by obtain ⟨v, h1, h2⟩ := nthG_get (l := l) (n := n) h; exact ⟨v, by simpa using h1, h2⟩
/-- The cells of a struct or an array out of its parts. -/
def fillF (place : Nat → (Nat → Nat → Prop) → Prop) : List Value → List (Nat × Value) → (List Value → Prop) → Prop
  | cells, [], K => K cells
  | cells, (i, v) :: r, K => place i fun off size => cellsF v fun cs => eqF cs.length size (leF (off + cs.length) cells.length (setNF cells off cs fun cells' => fillF place cells' r K))
def structPlace (fs : List (Nat × Nat × Bool)) (i : Nat) (K : Nat → Nat → Prop) : Prop := nthG fs i fun p => K p.1 p.2.1
def rowPlace (esz : Nat) (i : Nat) (K : Nat → Nat → Prop) : Prop := K (i * esz) esz
def buildF (T : Tab) (t : Nat) (parts : List (Nat × Value)) (K : Value → Prop) : Prop :=
  tyF T t fun i => match i.d with
    | .struct fs => fillF (structPlace fs) i.z parts fun cs => K (.agg cs.toArray)
    | .arr _ esz _ => fillF (rowPlace esz) i.z parts fun cs => K (.agg cs.toArray)
    | _ => False
def repF : Nat → List Value → (List Value → Prop) → Prop
  | 0, _, K => K []
  | n + 1, z, K => repF n z fun l => K (z ++ l)
theorem repF_iff : ∀ {n : Nat} {z : List Value} {K : List Value → Prop}, repF n z K ↔ K (repZ n z)
  | 0, _, _ => by simp [repF, repZ]
  | n + 1, z, K => by simp only [repF]; rw [repF_iff]; simp [repZ, List.replicate_succ]
def buildSliceF (T : Tab) (t len : Nat) (parts : List (Nat × Value)) (H : Hp) (K : Value → Hp → Prop) : Prop :=
  tyF T t fun i => match i.d with
    | .slice e esz _ ez => leF (len * esz) 16777216 (repF len ez fun cs0 => fillF (rowPlace esz) cs0 parts fun cs =>
        ∀ g, K (.slice (some ⟨g, 0, none⟩) len len) ⟨H.M, .row (.slice (some ⟨g, 0, none⟩) len len) e esz cs :: H.L⟩)
    | _ => False
def loadF (T : Tab) (t : Nat) (x : Value) (H : Hp) (K : Value → Prop) : Prop :=
  tyF T t fun i => match x with
    | .pointer (some ⟨g, o, none⟩) => ifC i.d.agg (∃ vs : List Value, vs.length = i.size ∧ CellsAt H g o vs ∧ K (.agg vs.toArray)) (∃ v, H.cell g o v ∧ K v)
    | _ => False
def oneCells : List Value → Prop
  | [] => True
  | v :: vs => v.oneCell' = true ∧ oneCells vs
def storeF (T : Tab) (t : Nat) (x v : Value) (H : Hp) (K : Hp → Prop) : Prop :=
  tyF T t fun i => match x with
    | .pointer (some ⟨g, o, none⟩) => cellsF v fun cs => eqF cs.length i.size (oneCells cs ∧ ∃ L', StoreTo H.L g o cs L' ∧ K ⟨H.M, L'⟩)
    | _ => False
def nilCheckF (x : Value) (K : Value → Prop) : Prop :=
  match x with
  | .pointer (some a) => K (.pointer (some a))
  | .func (.func f) a b => K (.func (.func f) a b)
  | _ => False
def fieldAddrF (T : Tab) (t : Nat) (x : Value) (f : Nat) (K : Value → Prop) : Prop :=
  tyF T t fun i => match i.d, x with
    | .struct fs, .pointer (some ⟨g, o, none⟩) => nthG fs f fun p => K (.pointer (some ⟨g, o + p.1, none⟩))
    | _, _ => False
def takeF : Nat → List Value → (List Value → Prop) → Prop
  | 0, _, K => K []
  | _ + 1, [], K => K []
  | n + 1, v :: l, K => takeF n l fun l' => K (v :: l')
theorem takeF_iff : ∀ {n : Nat} {l : List Value} {K : List Value → Prop}, takeF n l K ↔ K (l.take n)
  | 0, _, _ => by simp [takeF]
  | _ + 1, [], _ => by simp [takeF]
  | n + 1, v :: l, K => by simp only [takeF]; rw [takeF_iff]; simp
def dropF : Nat → List Value → (List Value → Prop) → Prop
  | 0, l, K => K l
  | _ + 1, [], K => K []
  | n + 1, _ :: l, K => dropF n l K
theorem dropF_iff : ∀ {n : Nat} {l : List Value} {K : List Value → Prop}, dropF n l K ↔ K (l.drop n)
  | 0, _, _ => by simp [dropF]
  | _ + 1, [], _ => by simp [dropF]
  | n + 1, v :: l, K => by simp only [dropF]; rw [dropF_iff]; simp
def partF (agg : Bool) (size off : Nat) (cs : List Value) (K : Value → Prop) : Prop :=
  ifC agg (dropF off cs fun l => takeF size l fun l' => K (.agg l'.toArray)) (nthG cs off K)
def fieldF (T : Tab) (t : Nat) (x : Value) (f : Nat) (K : Value → Prop) : Prop :=
  tyF T t fun i => match i.d, x with
    | .struct fs, .agg cs => nthG fs f fun p => partF p.2.2 p.2.1 p.1 cs.toList K
    | _, _ => False
def indexAddrF (T : Tab) (t : Nat) (x i : Value) (K : Value → Prop) : Prop :=
  tyF T t fun ti => match ti.d, x, i with
    | .slice _ esz _ _, .slice p n _, .int _ i => ∃ g o, p = some ⟨g, o, none⟩ ∧ (0 ≤ i ∧ i < n) ∧ K (.pointer (some ⟨g, o + i.toNat * esz, none⟩))
    | .arr n esz _, .pointer (some ⟨g, o, none⟩), .int _ i => (0 ≤ i ∧ i < n) ∧ K (.pointer (some ⟨g, o + i.toNat * esz, none⟩))
    | _, _, _ => False
def indexF (T : Tab) (t : Nat) (x i : Value) (K : Value → Prop) : Prop :=
  tyF T t fun ti => match ti.d, x, i with
    | .arr n esz agg, .agg cs, .int _ i => (0 ≤ i ∧ i < n) ∧ partF agg esz (i.toNat * esz) cs.toList K
    | _, _, _ => False
/-- The address of a slice that begins at l. -/
def subAddr (p : Option Addr) (cap l sz : Nat) : Option Addr :=
  if cap = l then p else p.map fun a => a.add (l * sz)
def boundF (x : Option Value) (d : Nat) (hi : Nat) (K : Nat → Prop) : Prop :=
  match x with
  | none => K d
  | some (.int _ i) => ∃ l : Nat, i = l ∧ l ≤ hi ∧ K l
  | _ => False
def sliceF (T : Tab) (t : Nat) (x : Value) (lo hi mx : Option Value) (K : Value → Prop) : Prop :=
  tyF T t fun ti => match ti.d, x with
    | .slice _ esz _ _, .slice p n cap => (match mx, hi with
      | some _, none => False
      | _, _ => boundF mx cap cap fun m => boundF hi n m fun h => boundF lo 0 h fun l => K (.slice (subAddr p m l esz) (h - l) (m - l)))
    | _, _ => False
def evOptF (fr : List Value) (x : Option Operand) (K : Option Value → Prop) : Prop :=
  match x with
  | none => K none
  | some o => evF fr o fun v => K (some v)
theorem evOptF_iff {fr : List Value} {x : Option Operand} {K : Option Value → Prop} : evOptF fr x K ↔ K (x.map (evL fr)) := by
  cases x <;> simp [evOptF, evF_iff]
def makeSliceF (T : Tab) (t : Nat) (l c : Value) (H : Hp) (K : Value → Hp → Prop) : Prop :=
  tyF T t fun ti => match ti.d, l, c with
    | .slice e esz eb ez, .int _ n, .int _ n' => ∃ m : Nat, n = m ∧ n' = m ∧ m * eb ≤ 140737488355328 ∧ m ≤ maxLen ∧
        ∀ g, K (.slice (some ⟨g, 0, none⟩) m m) ⟨H.M, .row (.slice (some ⟨g, 0, none⟩) m m) e esz (repZ m ez) :: H.L⟩
    | _, _, _ => False
def lookupF (T : Tab) (t : Nat) (m k : Value) (ok : Bool) (H : Hp) (K : Value → Prop) : Prop :=
  tyF T t fun ti => match ti.d, m, k with
    | .map _ _ ez, .map (some r), .int .i64 k => ∃ es, HasMap H r es ∧ ifC ok (K (.tuple #[(mLook es k).getD ez, .bool (mLook es k).isSome])) (K ((mLook es k).getD ez))
    | .map _ _ ez, .map none, .int .i64 k => ifC ok (K (.tuple #[ez, .bool false])) (K ez)
    | _, _, _ => False
def mapUpdateF (T : Tab) (t : Nat) (m k v : Value) (H : Hp) (K : Hp → Prop) : Prop :=
  tyF T t fun ti => match ti.d, m, k with
    | .map .., .map (some r), .int .i64 k => ∃ i es, H.L[i]? = some (.obj r (imapObj es)) ∧ K ⟨H.M, H.L.set i (.obj r (imapObj (mUpd es k v)))⟩
    | _, _, _ => False
def typeAssertF (T : Tab) (x : Value) (asserted : Nat) (ok : Bool) (K : Value → Prop) : Prop :=
  tyF T asserted fun ti => match ti.d with
    | .int _ => match x, ok with
      | .nilIface, true => K (.tuple #[ti.zv, .bool false])
      | .iface t v, true => ifC (Nat.beq t asserted) (K (.tuple #[v, .bool true])) (K (.tuple #[ti.zv, .bool false]))
      | _, _ => False
    | _ => False
def lenF (T : Tab) (t : Nat) (x : Value) (H : Hp) (K : Value → Prop) : Prop :=
  tyF T t fun ti => match ti.d, x with
    | .str, .string s => K (.int .i64 s.size)
    | .slice .., .slice _ n _ => K (.int .i64 n)
    | .map .., .map none => K (.int .i64 0)
    | .map .., .map (some r) => ∃ es, HasMap H r es ∧ K (.int .i64 es.length)
    | _, _ => False
def appendF (T : Tab) (t t' : Nat) (s x : Value) (H : Hp) (K : Value → Hp → Prop) : Prop :=
  eqF t t' (tyF T t fun ti => match ti.d with
    | .slice e esz eb _ => ∃ M1 L1 xs ys, Reads H x esz ys ∧ (∀ u ∈ ys, u.oneCell' = true) ∧ Weak H ⟨M1, .row s e esz xs :: L1⟩ ∧ (xs.length + ys.length) * eb ≤ 140737488355328 ∧
        (xs.length + ys.length) ≤ maxLen ∧ ∀ v', RowVal v' esz (xs ++ ys) → K v' ⟨M1, .row v' e esz (xs ++ ys) :: L1⟩
    | _ => False)
def copyF (T : Tab) (t : Nat) (d x : Value) (H : Hp) (K : Value → Hp → Prop) : Prop :=
  tyF T t fun ti => match ti.d with
    | .slice e esz _ _ => ∃ i xs ys n m c p p' c', H.L[i]? = some (.row d e esz xs) ∧ d = .slice p n c ∧ x = .slice p' m c' ∧ m ≤ n ∧ Reads H x esz ys ∧ (∀ u ∈ ys, u.oneCell' = true) ∧
        K (.int .i64 m) ⟨H.M, H.L.set i (.row d e esz (setN xs 0 ys))⟩
    | _ => False
def clearF (T : Tab) (t : Nat) (x : Value) (H : Hp) (K : Value → Hp → Prop) : Prop :=
  tyF T t fun ti => match ti.d, x with
    | .slice _ _ _ ez, .slice p n _ => oneCells ez ∧ ((n = 0 ∧ K (.tuple #[]) H) ∨ ∃ g o L', p = some ⟨g, o, none⟩ ∧ StoreTo H.L g o (repZ n ez) L' ∧ K (.tuple #[]) ⟨H.M, L'⟩)
    | _, _ => False
def minF (x y : Value) (K : Value → Prop) : Prop :=
  match x, y with
  | .int k m, .int _ n => K (.int k (if n < m then n else m))
  | _, _ => False
def maxF (x y : Value) (K : Value → Prop) : Prop :=
  match x, y with
  | .int k m, .int _ n => K (.int k (if n > m then n else m))
  | _, _ => False
/-- A call: the function is there, and from each world that is told as H it comes back. -/
@[irreducible] def ACalls (P : Program) (f : FuncId) (args : List Value) (H : Hp) (R : Ending → Hp → Prop) : Prop :=
  (∃ fn, P.funcs[f]? = some fn ∧ (fn.name == "runtime.NumGoroutine") = false ∧ fn.body.isNone = false) ∧
  ∀ w0 F w, RepF w0 F H w → Calls P f args.toArray w fun e w' => ∃ H', RepF w0 F H' w' ∧ R e H'
def callK (K : Value → Hp → Prop) (E : List PanicEntry → Hp → Prop) : Ending → Hp → Prop
  | .returned v, H => K v H
  | .panicked ch, H => E ch H
  | .outgrown, _ => False
def callF (P : Program) (f : Value) (args : List Value) (H : Hp) (K : Value → Hp → Prop) (E : List PanicEntry → Hp → Prop) : Prop :=
  match f with
  | .func (.func id) first cap => ACalls P id (first.toList ++ args ++ cap.toList) H (callK K E)
  | _ => False
def panicF (x : Value) (H : Hp) (E : List PanicEntry → Hp → Prop) : Prop :=
  match x with
  | .iface t v => E [{ v := .iface t v, recovered := false }] H
  | _ => False
def builtinF (T : Tab) (b : Builtin) (ts : List Nat) (vs : List Value) (H : Hp) (K : Value → Hp → Prop) : Prop :=
  match b, ts, vs with
  | .len, [t], [x] => lenF T t x H fun r => K r H
  | .append, [t, t'], [s, x] => appendF T t t' s x H K
  | .copy, [t, _], [d, x] => copyF T t d x H K
  | .clear, [t], [x] => clearF T t x H K
  | .min, _, [x, y] => minF x y fun r => K r H
  | .max, _, [x, y] => maxF x y fun r => K r H
  | _, _, _ => False
def isIface : TD → Bool
  | .iface => true
  | _ => false
def opF (P : Program) (T : Tab) (o : Op) (fr : List Value) (H : Hp) (K : Value → Hp → Prop) (E : List PanicEntry → Hp → Prop) : Prop :=
  match o with
  | .move x => evF fr x fun v => K v H
  | .assign x => evF fr x fun v => K v H
  | .pick c x y => evF fr c fun vc => pickF vc (evF fr x fun v => K v H) (evF fr y fun v => K v H)
  | .alloc e => tyF T e fun i => ∀ g, K (.pointer (some ⟨g, 0, none⟩)) ⟨H.M, .cells g e i.z :: H.L⟩
  | .box e x => evF fr x fun v => cellsF v fun cs => ∀ g, K (.pointer (some ⟨g, 0, none⟩)) ⟨H.M, .cells g e cs :: H.L⟩
  | .build t parts => evpF fr parts.toList fun ps => buildF T t ps fun v => K v H
  | .buildSlice t len parts => evpF fr parts.toList fun ps => buildSliceF T t len ps H K
  | .load t x => evF fr x fun v => loadF T t v H fun r => K r H
  | .store t x v => evF fr x fun a => evF fr v fun u => storeF T t a u H fun H' => K undef H'
  | .nilCheck x => evF fr x fun v => nilCheckF v fun r => K r H
  | .binOp op t x y _ => evF fr x fun v => evF fr y fun u => binF T op t v u fun r => K r H
  | .unOp op _ x => evF fr x fun v => unF op v fun r => K r H
  | .convert s d x => evF fr x fun v => convF T s d v fun r => K r H
  | .makeInterface t x => evF fr x fun v => tyF T t fun i => ifC (isIface i.d) False (K (.iface t v) H)
  | .makeFunc fn a b => evsF fr a.toList fun va => evsF fr b.toList fun vb => K (.func fn va.toArray vb.toArray) H
  | .makeMap t none => tyF T t fun i => ∀ g, K (.map (some g)) ⟨H.M, .obj g (imapObj []) :: H.L⟩
  | .makeSlice t l c => evF fr l fun vl => evF fr c fun vc => makeSliceF T t vl vc H K
  | .slice t x lo hi mx => evF fr x fun v => evOptF fr lo fun l => evOptF fr hi fun h => evOptF fr mx fun m => sliceF T t v l h m fun r => K r H
  | .fieldAddr t x f => evF fr x fun v => fieldAddrF T t v f fun r => K r H
  | .field t x f => evF fr x fun v => fieldF T t v f fun r => K r H
  | .indexAddr t x i => evF fr x fun v => evF fr i fun j => indexAddrF T t v j fun r => K r H
  | .index t x i => evF fr x fun v => evF fr i fun j => indexF T t v j fun r => K r H
  | .lookup t m k ok => evF fr m fun vm => evF fr k fun vk => lookupF T t vm vk ok H fun r => K r H
  | .mapUpdate t m k v => evF fr m fun vm => evF fr k fun vk => evF fr v fun vv => mapUpdateF T t vm vk vv H fun H' => K undef H'
  | .typeAssert x _ a ok => evF fr x fun v => typeAssertF T v a ok fun r => K r H
  | .extract x i => evF fr x fun v => (match v with | .tuple vs => nthG vs.toList i fun r => K r H | _ => False)
  | .panic x => evF fr x fun v => panicF v H E
  | .call ⟨.builtin b, args, ts⟩ => evsF fr args.toList fun vs => builtinF T b ts.toList vs H K
  | .call ⟨.value f, args, _⟩ => evF fr f fun fv => evsF fr args.toList fun vs => callF P fv vs H K E
  | _ => False

end Go.Proofs.Ytohdcmkooedkcaa.A
