/- The abstract machine: types by table, operands, and the operations that only compute or read. No program stands here. -/
import Derived.Test.YtjjhogleiolngaaA1
import Derived.Test.YtjjhogleiolngaaEq
namespace Go.Proofs.Ytjjhogleiolngaa
open Go.RowKit

/-- What a type is. -/
inductive TK where
  | int (k : IntKind)
  | bool
  | str
  | ptr
  | slice (e : TypeId)
  | arr (n : Nat) (e : TypeId)
  | struct (fs : List (Nat × TypeId))
  | func
  | map (k e : TypeId)
  | other
structure TI where
  k : TK
  size : Nat
  bytes : Nat
  zero : AC
  flat : Option (List CK)

def scB : Sc → Value → Bool
  | .bool b, .bool c => b == c
  | .int k n, .int k' m => decide (k = k') && decide (n = m)
  | .str s, .string t => s.data.toList == t.data.toList
  | .nilp, .pointer none => true
  | .nils, .slice none 0 0 => true
  | .nilf, .nilFunc => true
  | .nilm, .map none => true
  | _, _ => false
def scsB : List Sc → List Value → Bool
  | [], [] => true
  | x :: xs, v :: vs => scB x v && scsB xs vs
  | _, _ => false
def acB : AC → Value → Bool
  | .sc x, v => scB x v
  | .agg cs, .agg vs => scsB cs vs.toList
  | _, _ => false
theorem relS_scB {ρ : Map} {x : Sc} {v : Value} (h : scB x v = true) : relS ρ x v := by
  unfold scB at h
  split at h <;> simp_all [relS]
  · rename_i s t
    cases s; cases t; simp_all
theorem relL_scsB {ρ : Map} : ∀ {xs : List Sc} {vs : List Value}, scsB xs vs = true → relL ρ xs vs.toArray
  | [], [], _ => ⟨rfl, fun j x h => by simp at h⟩
  | x :: xs, v :: vs, h => by
    simp only [scsB, Bool.and_eq_true] at h
    have ih := relL_scsB (ρ := ρ) h.2
    refine ⟨by have := ih.1; simp at this ⊢; exact this, fun j y hj => ?_⟩
    cases j with
    | zero => simp at hj; subst hj; exact ⟨v, by simp, relS_scB h.1⟩
    | succ j => simp only [List.getElem?_cons_succ] at hj; obtain ⟨u, hu, r⟩ := ih.2 j y hj; exact ⟨u, by simpa using hu, r⟩
  | [], _ :: _, h => by simp [scsB] at h
  | _ :: _, [], h => by simp [scsB] at h
theorem relC_acB {ρ : Map} {x : AC} {v : Value} (h : acB x v = true) : relC ρ x v := by
  unfold acB at h
  split at h
  · exact relS_scB h
  · rename_i cs vs; exact ⟨vs, rfl, by simpa using relL_scsB (ρ := ρ) h⟩
  · cases h

def AC.cells : AC → Option (List Sc)
  | .sc x => some [x]
  | .agg cs => some cs
  | .top => none
/-- Is the type what the table says? Asked by computation. -/
def kB (P : Program) (t : TypeId) : TK → Bool
  | .int k => match P.underlying t with | some (.int k') => decide (k = k') | _ => false
  | .bool => match P.underlying t with | some .bool => true | _ => false
  | .str => match P.underlying t with | some .string => true | _ => false
  | .ptr => match P.underlying t with | some (.pointer _) => true | _ => false
  | .slice e => match P.underlying t with | some (.slice e') => e == e' | _ => false
  | .arr n e => match P.underlying t with | some (.array n' e') => n == n' && e == e' | _ => false
  | .struct fs => match P.underlying t with | some (.struct F) => (F.toList.map fun f => (f.offset, f.type)) == fs && F.toList.all (fun f => (P.info? f.type).isSome) | _ => false
  | .func => match P.underlying t with | some (.func ..) => true | _ => false
  | .map k e => match P.underlying t with | some (.map k' e') => k == k' && e == e' | _ => false
  | .other => true
def CK.beq : CK → CK → Bool
  | .int k, .int k' => decide (k = k')
  | .bool, .bool => true
  | .str, .str => true
  | _, _ => false
def cksB : List CK → List CK → Bool
  | [], [] => true
  | x :: xs, y :: ys => CK.beq x y && cksB xs ys
  | _, _ => false
theorem cksB_eq : ∀ {xs ys : List CK}, cksB xs ys = true → xs = ys
  | [], [], _ => rfl
  | x :: xs, y :: ys, h => by
    simp only [cksB, Bool.and_eq_true] at h
    have e := cksB_eq h.2
    have e1 : x = y := by
      have := h.1
      unfold CK.beq at this
      split at this <;> simp_all
    rw [e, e1]
  | [], _ :: _, h => by simp [cksB] at h
  | _ :: _, [], h => by simp [cksB] at h
def flatB (P : Program) (t : TypeId) : Option (List CK) → Bool
  | none => true
  | some ks => (match flat P 20 t with | some ks' => cksB ks ks' | none => false) && plainEq P 20 t && !P.eqGuardType P.depth t
def tokB (P : Program) (t : TypeId) (i : TI) : Bool :=
  (match P.info? t with | some f => f.size == i.size && f.bytes == i.bytes && (match f.zero with | some z => acB i.zero z | none => false) | none => false) && (match i.zero.cells with | some z => z.length == i.size | none => false) && kB P t i.k && flatB P t i.flat
structure TOk (P : Program) (t : TypeId) (i : TI) : Prop where
  info : ∃ f, P.info? t = some f ∧ f.size = i.size ∧ f.bytes = i.bytes ∧ ∃ z, f.zero = some z ∧ ∀ ρ, relC ρ i.zero z
  zlen : ∃ z, i.zero.cells = some z ∧ z.length = i.size
  kind : kB P t i.k = true
  flt : flatB P t i.flat = true
theorem tok_of {P : Program} {t : TypeId} {i : TI} (h : tokB P t i = true) : TOk P t i := by
  simp only [tokB, Bool.and_eq_true] at h
  obtain ⟨⟨⟨h1, h0⟩, h2⟩, h3⟩ := h
  refine ⟨?_, ?_, h2, h3⟩
  rotate_left
  · split at h0
    · rename_i z hz; exact ⟨z, hz, by simpa using h0⟩
    · cases h0
  split at h1
  · rename_i f hf
    simp only [Bool.and_eq_true, beq_iff_eq] at h1
    obtain ⟨⟨a, b⟩, c⟩ := h1
    split at c
    · rename_i z hz; exact ⟨f, hf, a, b, z, hz, fun ρ => relC_acB c⟩
    · cases c
  · cases h1
/-- The types that the table knows are as it says; the others it calls 'other', of size 0. -/
def TabOk (P : Program) (tab : TypeId → Option TI) : Prop := ∀ t i, tab t = some i → TOk P t i

section
variable {P : Program} {t : TypeId} {i : TI}
theorem TOk.size (h : TOk P t i) (w : World) : (sizeOf t).run P w = .ok i.size w := by
  obtain ⟨f, hf, a, _⟩ := h.info
  simp [sizeOf, typeInfo, hf, a]
theorem TOk.zeroV (h : TOk P t i) (w : World) : ∃ z, (zeroValue t).run P w = .ok z w ∧ ∀ ρ, relC ρ i.zero z := by
  obtain ⟨f, hf, a, b, z, hz, hr⟩ := h.info
  exact ⟨z, by simp [zeroValue, typeInfo, hf, hz], hr⟩
theorem TOk.slice (h : TOk P t i) {e : TypeId} (hk : i.k = .slice e) : P.underlying t = some (.slice e) := by
  have := h.kind; rw [hk] at this; simp only [kB] at this; split at this <;> simp_all
theorem TOk.arr (h : TOk P t i) {n : Nat} {e : TypeId} (hk : i.k = .arr n e) : P.underlying t = some (.array n e) := by
  have := h.kind; rw [hk] at this; simp only [kB] at this; split at this <;> simp_all
theorem TOk.int (h : TOk P t i) {k : IntKind} (hk : i.k = .int k) : P.underlying t = some (.int k) := by
  have := h.kind; rw [hk] at this; simp only [kB] at this; split at this <;> simp_all
theorem TOk.str (h : TOk P t i) (hk : i.k = .str) : P.underlying t = some .string := by
  have := h.kind; rw [hk] at this; simp only [kB] at this; split at this <;> simp_all
theorem TOk.bool (h : TOk P t i) (hk : i.k = .bool) : P.underlying t = some .bool := by
  have := h.kind; rw [hk] at this; simp only [kB] at this; split at this <;> simp_all
theorem TOk.ptr (h : TOk P t i) (hk : i.k = .ptr) : ∃ e, P.underlying t = some (.pointer e) := by
  have := h.kind; rw [hk] at this; simp only [kB] at this; split at this <;> simp_all
theorem TOk.func (h : TOk P t i) (hk : i.k = .func) : ∃ a b c, P.underlying t = some (.func a b c) := by
  have := h.kind; rw [hk] at this; simp only [kB] at this; split at this <;> simp_all
theorem TOk.map (h : TOk P t i) {k e : TypeId} (hk : i.k = .map k e) : P.underlying t = some (.map k e) := by
  have := h.kind; rw [hk] at this; simp only [kB] at this; split at this <;> simp_all
theorem TOk.struct (h : TOk P t i) {fs : List (Nat × TypeId)} (hk : i.k = .struct fs) : ∃ F, P.underlying t = some (.struct F) ∧ F.toList.map (fun f => (f.offset, f.type)) = fs ∧ ∀ f ∈ F.toList, (P.info? f.type).isSome = true := by
  have := h.kind; rw [hk] at this; simp only [kB] at this; split at this
  · rename_i F hF
    rw [Bool.and_eq_true, beq_iff_eq, List.all_eq_true] at this
    exact ⟨F, hF, this.1, this.2⟩
  · cases this
def TK.isAgg : TK → Bool
  | .arr .. | .struct _ => true
  | _ => false
theorem TOk.agg (h : TOk P t i) (ho : i.k = .other → False) (w : World) : (isAgg t).run P w = .ok i.k.isAgg w := by
  have hk := h.kind
  unfold isAgg
  cases hq : i.k with
  | other => exact (ho hq).elim
  | _ => rw [hq] at hk; simp only [kB] at hk; split at hk <;> first | (simp only [Sem.run_bind, run_underlying (by assumption)]; rfl) | cases hk
end

/-! ### Operands -/
def absS : Value → Sc
  | .bool b => .bool b
  | .int k n => .int k n
  | .string s => .str s
  | .pointer none => .nilp
  | .slice none 0 0 => .nils
  | .nilFunc => .nilf
  | .map none => .nilm
  | _ => .top
def absV : Value → AC
  | .agg cs => .agg (cs.toList.map absS)
  | .tuple _ => .top
  | .iface _ _ => .top
  | v => .sc (absS v)
theorem absS_rel {ρ : Map} (v : Value) (h : v.oneCell' = true) : relS ρ (absS v) v := by
  unfold absS
  split <;> first | rfl | exact h
def flatV : Value → Bool
  | .agg cs => cs.toList.all (·.oneCell')
  | _ => true
/-- What a slot, a constant, a function's name stands for. -/
def ev (T : Nat → AV) : Operand → AV
  | .tmp t => T t
  | .const v => if flatV v then .c (absV v) else .c .top
  | .func f => .c (.sc (.fn f []))
  | .global _ => .c .top
def AV.ac : AV → AC
  | .c x => x
  | .grd _ x => x
  | .tup _ => .top
def AV.gd : AV → Bool
  | .grd t _ => t
  | _ => true
theorem relC_of_V {ρ : Map} {x : AV} {v : Value} (h : relV ρ x v) (hg : x.gd = true) : relC ρ x.ac v := by
  cases x with
  | c => exact h
  | tup => trivial
  | grd => exact h.1 hg
def Operand.fit (N : Nat) : Operand → Bool
  | .tmp t => decide (t < N)
  | _ => true
/-- The slots below N stand for the frame's. -/
def Slots (ρ : Map) (N : Nat) (T : Nat → AV) (a : Act) : Prop := a.tmps.size = N ∧ ∀ i, i < N → relV ρ (T i) (a.tmps.getD i undef)
theorem ev_rel {ρ : Map} {N : Nat} {T : Nat → AV} {a : Act} (hs : Slots ρ N T a) {x : Operand} (hf : Operand.fit N x = true) : relV ρ (ev T x) (a.eval x) := by
  cases x with
  | tmp t => exact hs.2 t (by simpa [Operand.fit] using hf)
  | const v =>
    simp only [ev, Act.eval]
    split
    · rename_i h
      cases v with
      | agg cs =>
        refine ⟨cs, rfl, by simp, fun j x hj => ?_⟩
        simp only [List.getElem?_map, Option.map_eq_some_iff] at hj
        obtain ⟨u, hu, rfl⟩ := hj
        simp only [flatV, List.all_eq_true] at h
        exact ⟨u, by simpa using hu, absS_rel u (h u (List.mem_of_getElem? hu))⟩
      | tuple vs => trivial
      | iface t v => trivial
      | pointer a => cases a <;> exact rfl
      | slice a n c => exact absS_rel _ rfl
      | map r => cases r <;> exact rfl
      | _ => exact rfl
    · trivial
  | func f => exact ⟨#[], rfl, rfl, fun j p h => by simp at h⟩
  | global g => trivial

/-! ### What the operations yield -/
def Sc.toI : Sc → Int
  | .int _ n => n
  | _ => 0
def Sc.toB : Sc → Bool
  | .bool b => b
  | _ => false
def Sc.toS : Sc → ByteArray
  | .str s => s
  | _ => ⟨#[]⟩
/-- A cell, or cells, read at a type. -/
def ldC (i : TI) (cs : List Sc) (off : Nat) : Option (Prop × AC) :=
  match i.k with
  | .struct _ | .arr _ _ => some (off + i.size ≤ cs.length, .agg ((cs.drop off).take i.size))
  | .int k => some (cs[off]? = some (.int k (cs[off]?.getD .top).toI), .sc (.int k (cs[off]?.getD .top).toI))
  | .bool => some (cs[off]? = some (.bool (cs[off]?.getD .top).toB), .sc (.bool (cs[off]?.getD .top).toB))
  | .str => some (cs[off]? = some (.str (cs[off]?.getD .top).toS), .sc (.str (cs[off]?.getD .top).toS))
  | .other => none
  | _ => some (off < cs.length, .sc (cs[off]?.getD .top))

def bitsOf (k : IntKind) (op : BinOp) (a b : Int) : Int :=
  match op with
  | .and => k.wrap (BitVec.ofInt k.bits a &&& BitVec.ofInt k.bits b).toNat
  | .or => k.wrap (BitVec.ofInt k.bits a ||| BitVec.ofInt k.bits b).toNat
  | .xor => k.wrap (BitVec.ofInt k.bits a ^^^ BitVec.ofInt k.bits b).toNat
  | _ => k.wrap (BitVec.ofInt k.bits a &&& ~~~(BitVec.ofInt k.bits b)).toNat
def shlOf (k : IntKind) (a b : Int) : Int := k.wrap (a * 2 ^ (min b.toNat k.bits))
def shrOf (k : IntKind) (a b : Int) : Int := a.fdiv (2 ^ (min b.toNat k.bits))
def binI (op : BinOp) (k k' : IntKind) (a b : Int) : Prop × Sc :=
  match op with
  | .add => (k = k', .int k (k.wrap (a + b)))
  | .sub => (k = k', .int k (k.wrap (a - b)))
  | .mul => (k = k', .int k (k.wrap (a * b)))
  | .quo => (k = k' ∧ b ≠ 0, .int k (k.wrap (a.tdiv b)))
  | .rem => (k = k' ∧ b ≠ 0, .int k (a.tmod b))
  | .and => (k = k', .int k (bitsOf k .and a b))
  | .or => (k = k', .int k (bitsOf k .or a b))
  | .xor => (k = k', .int k (bitsOf k .xor a b))
  | .andNot => (k = k', .int k (bitsOf k .andNot a b))
  | .shl => (0 ≤ b, .int k (shlOf k a b))
  | .shr => (0 ≤ b, .int k (shrOf k a b))
  | .eql => (k = k', .bool (decide (a = b)))
  | .neq => (k = k', .bool (!decide (a = b)))
  | .lss => (k = k', .bool (decide (a < b)))
  | .leq => (k = k', .bool (decide (a ≤ b)))
  | .gtr => (k = k', .bool (decide (b < a)))
  | .geq => (k = k', .bool (decide (b ≤ a)))
def binS (op : BinOp) (s t : ByteArray) : Option (Prop × Sc) :=
  match op with
  | .add => some (((s.size + t.size : Nat) : Int) ≤ 9223372036854775807, .str (s ++ t))
  | .eql => some (True, .bool (decide (s = t)))
  | .neq => some (True, .bool (!decide (s = t)))
  | .lss => some (True, .bool (Op.bytesLess s.toList t.toList))
  | .gtr => some (True, .bool (!(Op.bytesLess s.toList t.toList || decide (s = t))))
  | .leq => some (True, .bool (Op.bytesLess s.toList t.toList || decide (s = t)))
  | .geq => some (True, .bool (!Op.bytesLess s.toList t.toList))
  | _ => none
def okS : CK → Sc → Bool
  | .int k, .int k' _ => decide (k' = k)
  | .bool, .bool _ => true
  | .str, .str _ => true
  | _, _ => false
def okSs : List CK → List Sc → Bool
  | [], [] => true
  | k :: ks, v :: vs => okS k v && okSs ks vs
  | _, _ => false
def eqS : Sc → Sc → Bool
  | .int _ a, .int _ b => decide (a = b)
  | .bool a, .bool b => a == b
  | .str a, .str b => decide (a = b)
  | _, _ => false
def eqSs : List Sc → List Sc → Bool
  | [], [] => true
  | a :: as, b :: bs => eqS a b && eqSs as bs
  | _, _ => false
/-- '==' of two values; with 'false' of '!='. -/
def eqC (i : TI) (want : Bool) : AC → AC → Option (Prop × Sc)
  | .sc (.bool a), .sc (.bool b) => match i.k with | .bool => some (True, .bool ((a == b) == want)) | _ => none
  | .agg cs, .agg ds => match i.flat, i.k with
    | some ks, .struct _ | some ks, .arr _ _ => some (okSs ks cs = true ∧ okSs ks ds = true, .bool (eqSs cs ds == want))
    | _, _ => none
  | .sc .nils, .sc .nils => match i.k with | .slice _ => some (True, .bool want) | _ => none
  | .sc (.sl ..), .sc .nils | .sc .nils, .sc (.sl ..) | .sc .sle, .sc .nils | .sc .nils, .sc .sle => match i.k with | .slice _ => some (True, .bool (!want)) | _ => none
  | .sc .nilp, .sc .nilp => match i.k with | .ptr => some (True, .bool want) | _ => none
  | .sc (.ptr ..), .sc .nilp | .sc .nilp, .sc (.ptr ..) => match i.k with | .ptr => some (True, .bool (!want)) | _ => none
  | .sc .nilf, .sc .nilf => match i.k with | .func => some (True, .bool want) | _ => none
  | .sc (.fn ..), .sc .nilf | .sc .nilf, .sc (.fn ..) => match i.k with | .func => some (True, .bool (!want)) | _ => none
  | _, _ => none
def binC (i : TI) (op : BinOp) : AC → AC → Option (Prop × Sc)
  | .sc (.int k a), .sc (.int k' b) => some (binI op k k' a b)
  | .sc (.str s), .sc (.str t) => binS op s t
  | x, y => match op with | .eql => eqC i true x y | .neq => eqC i false x y | _ => none

def pickC (t : Bool) : AC → AC → AC
  | .sc (.bool x), .sc (.bool y) => .sc (.bool (bif t then x else y))
  | x, y => bif t then x else y

def splice (off : Nat) : List Sc → List Sc → List Sc
  | [], z => z
  | c :: cs, z => splice (off + 1) cs (z.set off c)
/-- Parts put into place. -/
def fillS (place : Nat → Option (Nat × Nat)) (z : List Sc) : List (Nat × AC) → Option (List Sc)
  | [] => some z
  | (i, v) :: rest =>
    match place i, v.cells with
    | some (off, size), some cs => if cs.length = size ∧ off + size ≤ z.length then fillS place (splice off cs z) rest else none
    | _, _ => none

def isU8 : Sc → Bool
  | .int .u8 n => decide (0 ≤ n ∧ n < 256)
  | _ => false
def toU8 (c : Sc) : UInt8 := UInt8.ofNat c.toI.toNat

def lenC (i : TI) : AC → Option Int
  | .sc (.str s) => match i.k with | .str => some s.size | _ => none
  | .sc (.sl _ _ _ n _) => match i.k with | .slice _ => some n | _ => none
  | .sc .sle | .sc .nils => match i.k with | .slice _ => some 0 | _ => none
  | _ => none
/-- The bounds of x[l:h:m], each there or not. -/
def bnd (T : Nat → AV) (d : Int) : Option Operand → Option (Prop × Int)
  | none => some (True, d)
  | some x => match (ev T x).ac with
    | .sc (.int _ n) => some ((ev T x).gd = true, n)
    | _ => none
def ints (T : Nat → AV) : List Operand → Option (Prop × List (IntKind × Int))
  | [] => some (True, [])
  | x :: xs => match (ev T x).ac, ints T xs with
    | .sc (.int k n), some (p, l) => some ((ev T x).gd = true ∧ p, (k, n) :: l)
    | _, _ => none
def caps (T : Nat → AV) : List Operand → Option (Prop × List (Nat × Nat))
  | [] => some (True, [])
  | x :: xs => match (ev T x).ac, caps T xs with
    | .sc (.ptr id off), some (p, l) => some ((ev T x).gd = true ∧ p, (id, off) :: l)
    | _, _ => none
def partsC (T : Nat → AV) : List (Nat × Operand) → Prop × List (Nat × AC)
  | [] => (True, [])
  | (i, x) :: r => ((ev T x).gd = true ∧ (partsC T r).1, (i, (ev T x).ac) :: (partsC T r).2)

def Blk.cells? : Option Blk → Option (List Sc)
  | some (.own cs) => some cs
  | some (.ro cs) => some cs
  | _ => none

def sliceC (tab : TypeId → Option TI) (H : List Blk) (i : TI) (x : AC) (l h : Int) (hi : Bool) (m : Option Int) : Option (Prop × AC) :=
  match i.k, x with
  | .slice e, .sc (.sl id off es len cap) => match tab e with
    | some ie =>
      let h' : Int := if hi then h else len
      match m with
      | none => some (es = ie.size ∧ 0 ≤ l ∧ l ≤ h' ∧ h' ≤ cap, .sc (.sl id (off + l.toNat * es) es (h'.toNat - l.toNat) (cap - l.toNat)))
      | some m => some (es = ie.size ∧ 0 ≤ l ∧ l ≤ h' ∧ h' ≤ m ∧ m ≤ cap ∧ hi = true, if m = l then .sc .sle else .sc (.sl id (off + l.toNat * es) es (h'.toNat - l.toNat) (m.toNat - l.toNat)))
    | none => none
  | .slice e, .sc .nils => match tab e with
    | some _ => some (l = 0 ∧ (hi = true → h = 0) ∧ (∀ q, m = some q → q = 0 ∧ hi = true), .sc .nils)
    | none => none
  | .slice e, .sc .sle => match tab e with
    | some _ => some (l = 0 ∧ (hi = true → h = 0) ∧ (∀ q, m = some q → q = 0 ∧ hi = true), .sc .sle)
    | none => none
  | .str, .sc (.str s) => match m with
    | none =>
      let h' : Int := if hi then h else s.size
      some (0 ≤ l ∧ l ≤ h' ∧ h' ≤ s.size, .sc (.str (s.extract l.toNat h'.toNat)))
    | some _ => none
  | .arr n e, .sc (.ptr id off) => match tab e, H[id]?, m with
    | some ie, some (.own cs), none =>
      let h' : Int := if hi then h else n
      some (0 ≤ l ∧ l ≤ h' ∧ h' ≤ n ∧ n ≤ maxLen ∧ off + n * ie.size ≤ cs.length, .sc (.sl id (off + l.toNat * ie.size) ie.size (h'.toNat - l.toNat) (n - l.toNat)))
    | _, _, _ => none
  | _, _ => none

def opQ (tab : TypeId → Option TI) (T : Nat → AV) (H : List Blk) : Op → Option (Prop × AC)
  | .move x | .assign x => some ((ev T x).gd = true, (ev T x).ac)
  | .pick c a b => match (ev T c).ac with
    | .sc (.bool t) => some ((ev T c).gd = true ∧ (t = true → (ev T a).gd = true) ∧ (t = false → (ev T b).gd = true), pickC t (ev T a).ac (ev T b).ac)
    | _ => none
  | .binOp op ty x y _ => match tab ty with
    | some i => match binC i op (ev T x).ac (ev T y).ac with
      | some (p, v) => some ((ev T x).gd = true ∧ (ev T y).gd = true ∧ p, .sc v)
      | none => none
    | none => none
  | .unOp op _ x => match op, (ev T x).ac with
    | .not, .sc (.bool b) => some ((ev T x).gd = true, .sc (.bool (!b)))
    | .neg, .sc (.int k n) => some ((ev T x).gd = true, .sc (.int k (k.wrap (0 - n))))
    | .xor, .sc (.int k n) => some ((ev T x).gd = true, .sc (.int k (bitsOf k .xor (if k.signed then -1 else k.max) n)))
    | _, _ => none
  | .fieldAddr s x f => match tab s, (ev T x).ac with
    | some i, .sc (.ptr id off) => match i.k with
      | .struct fs => match fs[f]? with
        | some (o, ft) => match tab ft with
          | some ift => some ((ev T x).gd = true ∧ ift.size ≠ 0, .sc (.ptr id (off + o)))
          | none => none
        | none => none
      | _ => none
    | _, _ => none
  | .indexAddr t x ix => match tab t, (ev T x).ac, (ev T ix).ac with
    | some i, .sc (.sl id off es len _), .sc (.int _ n) => match i.k with
      | .slice e => match tab e with
        | some ie => some (((ev T x).gd = true ∧ (ev T ix).gd = true) ∧ es = ie.size ∧ 0 ≤ n ∧ n < len, .sc (.ptr id (off + n.toNat * es)))
        | none => none
      | _ => none
    | some i, .sc (.ptr id off), .sc (.int _ n) => match i.k with
      | .arr m e => match tab e with
        | some ie => some (((ev T x).gd = true ∧ (ev T ix).gd = true) ∧ 0 ≤ n ∧ n < m, .sc (.ptr id (off + n.toNat * ie.size)))
        | none => none
      | _ => none
    | _, _, _ => none
  | .load t x => match tab t, (ev T x).ac with
    | some i, .sc (.ptr id off) => match Blk.cells? H[id]? with
      | some cs => match ldC i cs off with
        | some (p, v) => some ((ev T x).gd = true ∧ p, v)
        | none => none
      | none => none
    | _, _ => none
  | .index t x ix => match tab t, (ev T x).ac, (ev T ix).ac with
    | some i, .agg cs, .sc (.int _ n) => match i.k with
      | .arr m e => match tab e with
        | some ie => match ldC ie cs (n.toNat * ie.size) with
          | some (p, v) => some (((ev T x).gd = true ∧ (ev T ix).gd = true) ∧ 0 ≤ n ∧ n < m ∧ p, v)
          | none => none
        | none => none
      | _ => none
    | some i, .sc (.str s), .sc (.int _ n) => match i.k with
      | .str => some (((ev T x).gd = true ∧ (ev T ix).gd = true) ∧ 0 ≤ n ∧ n < s.size, .sc (.int .u8 (s[n.toNat]?.getD 0).toNat))
      | _ => none
    | _, _, _ => none
  | .nilCheck x => match (ev T x).ac with
    | .sc (.ptr id off) => some ((ev T x).gd = true, .sc (.ptr id off))
    | .sc (.fn f cs) => some ((ev T x).gd = true, .sc (.fn f cs))
    | _ => none
  | .build t parts => match tab t with
    | some i => match i.k, i.zero with
      | .struct fs, .agg z =>
        match fillS (fun j => match fs[j]? with | some (o, ft) => (match tab ft with | some ift => some (o, ift.size) | none => none) | none => none) z (partsC T parts.toList).2 with
        | some cs => some ((partsC T parts.toList).1, .agg cs)
        | none => none
      | .arr _ e, .agg z => match tab e with
        | some ie => match fillS (fun j => some (j * ie.size, ie.size)) z (partsC T parts.toList).2 with
          | some cs => some ((partsC T parts.toList).1, .agg cs)
          | none => none
        | none => none
      | _, _ => none
    | none => none
  | .extract x j => match ev T x with
    | .tup xs => match xs[j]? with
      | some v => some (True, v)
      | none => none
    | _ => none
  | .convert src dst x => match tab src, tab dst, (ev T x).ac with
    | some i, some j, .sc (.int _ n) => match i.k, j.k with
      | .int _, .int k => some ((ev T x).gd = true, .sc (.int k (k.wrap n)))
      | _, _ => none
    | some i, some j, .sc (.str s) => match i.k, j.k with
      | .str, .str => some ((ev T x).gd = true, .sc (.str s))
      | _, _ => none
    | some i, some j, .sc (.sl id off es len _) => match i.k, j.k, Blk.cells? H[id]? with
      | .slice e, .str, some cs => match tab e with
        | some ie => match ie.k with
          | .int .u8 => some ((ev T x).gd = true ∧ es = 1 ∧ off + len ≤ cs.length ∧ ((cs.drop off).take len).all isU8 = true, .sc (.str ⟨(((cs.drop off).take len).map toU8).toArray⟩))
          | _ => none
        | none => none
      | _, _, _ => none
    | some i, some j, .sc .nils => match i.k, j.k with
      | .slice e, .str => match tab e with
        | some ie => match ie.k with
          | .int .u8 => some ((ev T x).gd = true, .sc (.str ⟨#[]⟩))
          | _ => none
        | none => none
      | _, _ => none
    | _, _, _ => none
  | .slice t x lo hi mx => match tab t with
    | some i => match bnd T 0 lo, bnd T 0 hi, mx with
      | some (pl, l), some (ph, h), none => match sliceC tab H i (ev T x).ac l h hi.isSome none with
        | some (p, v) => some (((ev T x).gd = true ∧ pl ∧ ph) ∧ p, v)
        | none => none
      | some (pl, l), some (ph, h), some m => match bnd T 0 (some m) with
        | some (pm, m) => match sliceC tab H i (ev T x).ac l h hi.isSome (some m) with
          | some (p, v) => some (((ev T x).gd = true ∧ pl ∧ ph ∧ pm) ∧ p, v)
          | none => none
        | none => none
      | _, _, _ => none
    | none => none
  | .makeFunc (.func f) first captured => if first = #[] then (match caps T captured.toList with
      | some (p, l) => some (p, .sc (.fn f l))
      | none => none) else none
  | .call { callee := .builtin .len, args, argTypes } => match args.toList, argTypes.toList with
    | [x], [t] => match tab t with
      | some i => match i.k with
        | .arr n _ => some (True, .sc (.int .i64 n))
        | _ => match lenC i (ev T x).ac with
          | some n => some ((ev T x).gd = true, .sc (.int .i64 n))
          | none => none
      | none => none
    | _, _ => none
  | .call { callee := .builtin .cap, args, argTypes } => match args.toList, argTypes.toList with
    | [x], [t] => match tab t, (ev T x).ac with
      | some i, .sc .nils => match i.k with
        | .slice _ => some ((ev T x).gd = true, .sc (.int .i64 0))
        | _ => none
      | some i, .sc .sle => match i.k with
        | .slice _ => some ((ev T x).gd = true, .sc (.int .i64 0))
        | _ => none
      | _, _ => none
    | _, _ => none
  | .call { callee := .builtin .max, args, .. } => match ints T args.toList with
    | some (p, (k, n) :: l) => some (p, .sc (.int k (l.foldl (fun a b => if a < b.2 then b.2 else a) n)))
    | _ => none
  | .call { callee := .builtin .min, args, .. } => match ints T args.toList with
    | some (p, (k, n) :: l) => some (p, .sc (.int k (l.foldl (fun a b => if b.2 < a then b.2 else a) n)))
    | _ => none
  | _ => none
end Go.Proofs.Ytjjhogleiolngaa
