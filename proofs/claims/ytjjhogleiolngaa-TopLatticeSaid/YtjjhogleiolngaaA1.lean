/- Words for an abstract machine over the model: abstract values, abstract heaps, and how they stand for the model's. No program stands here. -/
import Derived.WalkKit
import Derived.Below
import Derived.Laws.AppendOwn
import Derived.Laws.Rows
import Derived.Laws.Cells
import Derived.Laws.CopyRow
import Derived.Orders
namespace Go.Proofs.Ytjjhogleiolngaa
open Go.RowKit

/-- Where an abstract block lies: the model's block, the first cell there, how many cells belong to it. -/
structure Loc where
  b : Nat
  o : Nat
  n : Nat

/-- Abstract scalars: what one cell holds. Blocks are named by abstract numbers. -/
inductive Sc where
  | bool (b : Bool)
  | int (k : IntKind) (n : Int)
  | str (s : ByteArray)
  | ptr (id off : Nat)
  | nilp
  | sl (id off es len cap : Nat)
  | sle
  | nils
  | fn (f : FuncId) (caps : List (Nat × Nat))
  | nilf
  | mp (id : Nat)
  | nilm
  | top
  deriving Inhabited

/-- A value of a slot that is no tuple. -/
inductive AC where
  | sc (x : Sc)
  | agg (cs : List Sc)
  | top
  deriving Inhabited

/-- A slot: a value, a tuple, or a value that is there if a condition holds. -/
inductive AV where
  | c (x : AC)
  | tup (xs : List AC)
  | grd (t : Bool) (x : AC)
  deriving Inhabited

inductive Blk where
  | own (cs : List Sc)
  | ro (cs : List Sc)
  | mapB (kk kv : IntKind) (es : List (Int × Int))
  | dead
  deriving Inhabited

abbrev Map := Nat → Option Loc

def relS (ρ : Map) : Sc → Value → Prop
  | .bool b, v => v = .bool b
  | .int k n, v => v = .int k n
  | .str s, v => v = .string s
  | .ptr id off, v => ∃ L, ρ id = some L ∧ v = .pointer (some ⟨L.b, L.o + off, none⟩)
  | .nilp, v => v = .pointer none
  | .sl id off es len cap, v => ∃ L a c, ρ id = some L ∧ v = .slice (some a) len c ∧ len ≤ cap ∧ cap ≤ c ∧ c ≤ maxLen ∧ (c = 0 ∨ (a = ⟨L.b, L.o + off, none⟩ ∧ off + c * es ≤ L.n))
  | .sle, v => ∃ a, v = .slice (some a) 0 0
  | .nils, v => v = .slice none 0 0
  | .fn f caps, v => ∃ vs : Array Value, v = .func (.func f) #[] vs ∧ vs.size = caps.length ∧ ∀ (j : Nat) (p : Nat × Nat), caps[j]? = some p → ∃ L, ρ p.1 = some L ∧ vs[j]? = some (.pointer (some ⟨L.b, L.o + p.2, none⟩))
  | .nilf, v => v = .nilFunc
  | .mp id, v => ∃ L, ρ id = some L ∧ v = .map (some L.b)
  | .nilm, v => v = .map none
  | .top, v => v.oneCell' = true

theorem relS_one {ρ : Map} {x : Sc} {v : Value} (h : relS ρ x v) : v.oneCell' = true := by
  cases x with
  | ptr => obtain ⟨_, _, rfl⟩ := h; rfl
  | sl => obtain ⟨_, _, _, _, rfl, _⟩ := h; rfl
  | sle => obtain ⟨_, rfl⟩ := h; rfl
  | fn => obtain ⟨_, rfl, _⟩ := h; rfl
  | mp => obtain ⟨_, _, rfl⟩ := h; rfl
  | top => exact h
  | _ => simp only [relS] at h; subst h; rfl

def relL (ρ : Map) (cs : List Sc) (vs : Array Value) : Prop := vs.size = cs.length ∧ ∀ (j : Nat) (x : Sc), cs[j]? = some x → ∃ u, vs[j]? = some u ∧ relS ρ x u

def relC (ρ : Map) : AC → Value → Prop
  | .sc x, v => relS ρ x v
  | .agg cs, v => ∃ vs, v = .agg vs ∧ relL ρ cs vs
  | .top, _ => True

def relV (ρ : Map) : AV → Value → Prop
  | .c x, v => relC ρ x v
  | .tup xs, v => ∃ vs : Array Value, v = .tuple vs ∧ vs.size = xs.length ∧ ∀ (j : Nat) (x : AC), xs[j]? = some x → ∃ u, vs[j]? = some u ∧ relC ρ x u
  | .grd t x, v => (t = true → relC ρ x v) ∧ (t = false → v = undef)

/-- More blocks are known: nothing is lost. -/
def Map.le (ρ σ : Map) : Prop := ∀ i L, ρ i = some L → σ i = some L
theorem Map.le_refl (ρ : Map) : ρ.le ρ := fun _ _ h => h
theorem Map.le_trans {ρ σ τ : Map} (h : ρ.le σ) (k : σ.le τ) : ρ.le τ := fun i L e => k i L (h i L e)

theorem relS_le {ρ σ : Map} (h : ρ.le σ) {x : Sc} {v : Value} (hx : relS ρ x v) : relS σ x v := by
  cases x with
  | ptr => obtain ⟨L, e, hv⟩ := hx; exact ⟨L, h _ _ e, hv⟩
  | sl => obtain ⟨L, a, c, e, hv⟩ := hx; exact ⟨L, a, c, h _ _ e, hv⟩
  | fn => obtain ⟨vs, e, hs, hv⟩ := hx; exact ⟨vs, e, hs, fun j p hp => by obtain ⟨L, e1, e2⟩ := hv j p hp; exact ⟨L, h _ _ e1, e2⟩⟩
  | mp => obtain ⟨L, e, hv⟩ := hx; exact ⟨L, h _ _ e, hv⟩
  | _ => exact hx
theorem relL_le {ρ σ : Map} (h : ρ.le σ) {cs : List Sc} {vs : Array Value} (hx : relL ρ cs vs) : relL σ cs vs :=
  ⟨hx.1, fun j x hj => by obtain ⟨u, e, r⟩ := hx.2 j x hj; exact ⟨u, e, relS_le h r⟩⟩
theorem relC_le {ρ σ : Map} (h : ρ.le σ) {x : AC} {v : Value} (hx : relC ρ x v) : relC σ x v := by
  cases x with
  | sc => exact relS_le h hx
  | agg => obtain ⟨vs, e, r⟩ := hx; exact ⟨vs, e, relL_le h r⟩
  | top => trivial
theorem relV_le {ρ σ : Map} (h : ρ.le σ) {x : AV} {v : Value} (hx : relV ρ x v) : relV σ x v := by
  cases x with
  | c => exact relC_le h hx
  | tup => obtain ⟨vs, e, hs, r⟩ := hx; exact ⟨vs, e, hs, fun j x hj => by obtain ⟨u, e, r⟩ := r j x hj; exact ⟨u, e, relC_le h r⟩⟩
  | grd => exact ⟨fun t => relC_le h (hx.1 t), hx.2⟩

/-- What is known of the cells of a block. -/
def cellsAt (ρ : Map) (c : Array Value) (o : Nat) (cs : List Sc) : Prop := ∀ (j : Nat) (x : Sc), cs[j]? = some x → ∃ v, c[o + j]? = some v ∧ relS ρ x v

def holds (ρ : Map) (w : World) (L : Loc) : Blk → Prop
  | .own cs => cs.length ≤ L.n ∧ ∃ c e, w.heap[L.b]? = some (.cells c e (0, 0)) ∧ L.o + L.n ≤ c.size ∧ cellsAt ρ c L.o cs
  | .ro cs => ∃ c e fr, w.heap[L.b]? = some (.cells c e fr) ∧ cellsAt ρ c L.o cs
  | .mapB kk kv es => ∃ ents clock, w.heap[L.b]? = some (.map ents clock) ∧ (ents.toList.map fun e => (e.key, e.val)) = es.map fun p => (.int kk p.1, .int kv p.2)
  | .dead => True

def Blk.isOwn : Blk → Prop
  | .own _ => True
  | .mapB .. => True
  | _ => False
def Blk.live : Blk → Prop
  | .dead => False
  | _ => True
theorem Blk.live_of_own {b : Blk} (h : b.isOwn) : b.live := by cases b <;> first | trivial | exact h

/-- The abstract heap stands for the world. -/
structure Rel (ρ : Map) (H : List Blk) (w : World) : Prop where
  dom : ∀ i L, ρ i = some L → i < H.length
  has : ∀ i L blk, ρ i = some L → H[i]? = some blk → holds ρ w L blk
  sep : ∀ i j L M b d, i ≠ j → ρ i = some L → ρ j = some M → H[i]? = some b → H[j]? = some d → b.isOwn → d.live → L.b ≠ M.b

/-- What a stretch of the run may do: old blocks that are no abstract block's own stand; old names mean what they meant. -/
structure Stp (n : Nat) (ρ : Map) (H : List Blk) (w : World) (ρ' : Map) (H' : List Blk) (w' : World) : Prop where
  ext : ∀ i, i < n → ρ' i = ρ i
  os : w'.os = w.os
  tape : w'.tape = w.tape
  output : w'.output = w.output
  size : w.heap.size ≤ w'.heap.size
  frame : ∀ b, b < w.heap.size → (∀ i L d, ρ i = some L → H[i]? = some d → d.isOwn → L.b ≠ b) → w'.heap[b]? = w.heap[b]?
  own : ∀ i L d, ρ' i = some L → H'[i]? = some d → d.isOwn → (∃ j M e, ρ j = some M ∧ H[j]? = some e ∧ e.isOwn ∧ M.b = L.b) ∨ w.heap.size ≤ L.b

theorem Stp.refl (n : Nat) (ρ : Map) (H : List Blk) (w : World) : Stp n ρ H w ρ H w :=
  ⟨fun _ _ => rfl, rfl, rfl, rfl, Nat.le_refl _, fun _ _ _ => rfl, fun i L d h1 h2 h3 => .inl ⟨i, L, d, h1, h2, h3, rfl⟩⟩

theorem Stp.trans {n : Nat} {ρ σ τ : Map} {H I J : List Blk} {u v w : World} (h : Stp n ρ H u σ I v) (k : Stp n σ I v τ J w) : Stp n ρ H u τ J w where
  ext i hi := (k.ext i hi).trans (h.ext i hi)
  os := k.os.trans h.os
  tape := k.tape.trans h.tape
  output := k.output.trans h.output
  size := Nat.le_trans h.size k.size
  frame b hb hn := by
    rw [k.frame b (Nat.lt_of_lt_of_le hb h.size), h.frame b hb hn]
    intro i L d h1 h2 h3 e
    rcases h.own i L d h1 h2 h3 with ⟨j, M, f, g1, g2, g3, g4⟩ | hge
    · exact hn j M f g1 g2 g3 (g4.trans e)
    · omega
  own i L d h1 h2 h3 := by
    rcases k.own i L d h1 h2 h3 with ⟨j, M, f, g1, g2, g3, g4⟩ | hge
    · rcases h.own j M f g1 g2 g3 with ⟨j', M', f', q1, q2, q3, q4⟩ | hge
      · exact .inl ⟨j', M', f', q1, q2, q3, q4.trans g4⟩
      · exact .inr (by omega)
    · exact .inr (Nat.le_trans h.size hge)

theorem Stp.mono {n m : Nat} {ρ ρ' : Map} {H H' : List Blk} {w w' : World} (h : Stp n ρ H w ρ' H' w') (hm : m ≤ n) : Stp m ρ H w ρ' H' w' :=
  { h with ext := fun i hi => h.ext i (Nat.lt_of_lt_of_le hi hm) }

theorem Stp.le {ρ ρ' : Map} {H H' : List Blk} {w w' : World} (h : Stp H.length ρ H w ρ' H' w') (hr : Rel ρ H w) : ρ.le ρ' :=
  fun i L e => by rw [h.ext i (hr.dom i L e)]; exact e

/-- A draw changes nothing. -/
theorem holds_heap {ρ : Map} {w w' : World} {L : Loc} {d : Blk} (hd : d.live → w'.heap[L.b]? = w.heap[L.b]?) (h : holds ρ w L d) : holds ρ w' L d := by
  cases d with
  | own cs => simp only [holds] at h ⊢; rw [hd trivial]; exact h
  | ro cs => simp only [holds] at h ⊢; rw [hd trivial]; exact h
  | mapB kk kv es => simp only [holds] at h ⊢; rw [hd trivial]; exact h
  | dead => trivial
theorem Rel.heap {ρ : Map} {H : List Blk} {w w' : World} (h : Rel ρ H w) (he : w'.heap = w.heap) : Rel ρ H w' :=
  ⟨h.dom, fun i L d h1 h2 => holds_heap (fun _ => by rw [he]) (h.has i L d h1 h2), h.sep⟩
theorem Stp.drawn (n : Nat) (ρ : Map) (H : List Blk) (w : World) (d : Nat) : Stp n ρ H w ρ H { w with drawn := d } :=
  ⟨fun _ _ => rfl, rfl, rfl, rfl, Nat.le_refl _, fun _ _ _ => rfl, fun i L d h1 h2 h3 => .inl ⟨i, L, d, h1, h2, h3, rfl⟩⟩

theorem holds_le {ρ σ : Map} (h : ρ.le σ) {w : World} {L : Loc} {d : Blk} (hd : holds ρ w L d) : holds σ w L d := by
  cases d with
  | own cs => obtain ⟨a, c, e, h1, h2, h3⟩ := hd; exact ⟨a, c, e, h1, h2, fun j x hj => by obtain ⟨v, e1, e2⟩ := h3 j x hj; exact ⟨v, e1, relS_le h e2⟩⟩
  | ro cs => obtain ⟨c, e, fr, h1, h3⟩ := hd; exact ⟨c, e, fr, h1, fun j x hj => by obtain ⟨v, e1, e2⟩ := h3 j x hj; exact ⟨v, e1, relS_le h e2⟩⟩
  | mapB kk kv es => exact hd
  | dead => trivial

/-! ### A new block -/
def Map.put (ρ : Map) (i : Nat) (L : Loc) : Map := fun j => if j = i then some L else ρ j
theorem Map.put_same (ρ : Map) (i : Nat) (L : Loc) : ρ.put i L i = some L := by simp [Map.put]
theorem Map.put_ne (ρ : Map) {i j : Nat} (L : Loc) (h : j ≠ i) : ρ.put i L j = ρ j := by simp [Map.put, h]

theorem Rel.put_le {ρ : Map} {H : List Blk} {w : World} (h : Rel ρ H w) (L : Loc) : ρ.le (ρ.put H.length L) :=
  fun i M e => by rw [Map.put_ne]; exact e; have := h.dom i M e; omega

/-- A block is appended to the abstract heap; it lies in a model's block of its own that nothing lived in. -/
theorem Rel.pushB {ρ : Map} {H : List Blk} {w : World} (h : Rel ρ H w) (L : Loc) (b0 : Blk) (hh : holds (ρ.put H.length L) w L b0)
    (hf : ∀ i M d, ρ i = some M → H[i]? = some d → d.live → M.b ≠ L.b) : Rel (ρ.put H.length L) (H ++ [b0]) w where
  dom i M e := by
    by_cases hi : i = H.length
    · simp [hi]
    · rw [Map.put_ne _ _ hi] at e; have := h.dom i M e; simp; omega
  has i M d e hd := by
    by_cases hi : i = H.length
    · subst hi; rw [Map.put_same] at e; cases e; simp at hd; subst hd; exact hh
    · rw [Map.put_ne _ _ hi] at e
      have hlt := h.dom i M e
      rw [List.getElem?_append_left hlt] at hd
      exact holds_le (h.put_le L) (h.has i M d e hd)
  sep i j M N b d hij e1 e2 h1 h2 ho hl := by
    by_cases hi : i = H.length
    · subst hi
      have hj : j ≠ H.length := fun e => hij e.symm
      rw [Map.put_same] at e1; cases e1
      rw [Map.put_ne _ _ hj] at e2
      rw [List.getElem?_append_left (h.dom j N e2)] at h2
      exact fun e => hf j N d e2 h2 hl e.symm
    · rw [Map.put_ne _ _ hi] at e1
      rw [List.getElem?_append_left (h.dom i M e1)] at h1
      by_cases hj : j = H.length
      · subst hj; rw [Map.put_same] at e2; cases e2
        exact hf i M b e1 h1 (Blk.live_of_own ho)
      · rw [Map.put_ne _ _ hj] at e2
        rw [List.getElem?_append_left (h.dom j N e2)] at h2
        exact h.sep i j M N b d hij e1 e2 h1 h2 ho hl

theorem Rel.push {ρ : Map} {H : List Blk} {w : World} (h : Rel ρ H w) (L : Loc) (cs : List Sc) (hh : holds (ρ.put H.length L) w L (.own cs))
    (hf : ∀ i M d, ρ i = some M → H[i]? = some d → d.live → M.b ≠ L.b) : Rel (ρ.put H.length L) (H ++ [.own cs]) w := h.pushB L _ hh hf
/-- The live blocks lie in the heap. -/
theorem Rel.lt {ρ : Map} {H : List Blk} {w : World} (h : Rel ρ H w) {i : Nat} {L : Loc} {d : Blk} (e : ρ i = some L) (hd : H[i]? = some d) (hl : d.live) : L.b < w.heap.size := by
  have hh := h.has i L d e hd
  cases d with
  | own cs => obtain ⟨_, c, t, h1, _⟩ := hh; exact (Array.getElem?_eq_some_iff.1 h1).1
  | ro cs => obtain ⟨c, t, fr, h1, _⟩ := hh; exact (Array.getElem?_eq_some_iff.1 h1).1
  | mapB kk kv es => obtain ⟨c, t, h1, _⟩ := hh; exact (Array.getElem?_eq_some_iff.1 h1).1
  | dead => exact hl.elim

theorem Rel.world {ρ : Map} {H : List Blk} {w w' : World} (h : Rel ρ H w) (he : ∀ i L d, ρ i = some L → H[i]? = some d → d.live → w'.heap[L.b]? = w.heap[L.b]?) : Rel ρ H w' :=
  ⟨h.dom, fun i L d h1 h2 => holds_heap (fun hl => he i L d h1 h2 hl) (h.has i L d h1 h2), h.sep⟩

/-- A new block of cells. -/
theorem rel_alloc {ρ : Map} {H : List Blk} {w : World} (h : Rel ρ H w) (c : Array Value) (e : TypeId) (cs : List Sc) (hc : ∀ σ : Map, ρ.le σ → relL σ cs c) :
    Rel (ρ.put H.length ⟨w.heap.size, 0, cs.length⟩) (H ++ [.own cs]) (w.alloc (.cells c e)) ∧
    Stp H.length ρ H w (ρ.put H.length ⟨w.heap.size, 0, cs.length⟩) (H ++ [.own cs]) (w.alloc (.cells c e)) := by
  have hl := hc _ (h.put_le ⟨w.heap.size, 0, cs.length⟩)
  have h1 : Rel ρ H (w.alloc (.cells c e)) := h.world fun i L d e1 e2 e3 => Below.heap_alloc w _ _ (h.lt e1 e2 e3)
  constructor
  · refine h1.push _ _ ⟨Nat.le_refl _, c, e, heap_alloc_new w _, by simp [hl.1], fun j x hj => ?_⟩ fun i M d e1 e2 e3 => ?_
    · simpa using hl.2 j x hj
    · have := h.lt e1 e2 e3; simp; omega
  · refine ⟨fun i hi => Map.put_ne _ _ (by omega), rfl, rfl, rfl, by simp, fun b hb _ => Below.heap_alloc w _ _ hb, fun i L d e1 e2 e3 => ?_⟩
    by_cases hi : i = H.length
    · subst hi; rw [Map.put_same] at e1; cases e1; exact .inr (Nat.le_refl _)
    · rw [Map.put_ne _ _ hi] at e1
      have hlt := h.dom i L e1
      rw [List.getElem?_append_left hlt] at e2
      exact .inl ⟨i, L, d, e1, e2, e3, rfl⟩

/-- A new map. -/
theorem rel_allocM {ρ : Map} {H : List Blk} {w : World} (h : Rel ρ H w) (kk kv : IntKind) :
    Rel (ρ.put H.length ⟨w.heap.size, 0, 0⟩) (H ++ [.mapB kk kv []]) (w.alloc (.map #[] 0)) ∧
    Stp H.length ρ H w (ρ.put H.length ⟨w.heap.size, 0, 0⟩) (H ++ [.mapB kk kv []]) (w.alloc (.map #[] 0)) := by
  have h1 : Rel ρ H (w.alloc (.map #[] 0)) := h.world fun i L d e1 e2 e3 => Below.heap_alloc w _ _ (h.lt e1 e2 e3)
  constructor
  · refine h1.pushB _ _ ⟨#[], 0, heap_alloc_new w _, rfl⟩ fun i M d e1 e2 e3 => ?_
    have := h.lt e1 e2 e3; simp; omega
  · refine ⟨fun i hi => Map.put_ne _ _ (by omega), rfl, rfl, rfl, by simp, fun b hb _ => Below.heap_alloc w _ _ hb, fun i L d e1 e2 e3 => ?_⟩
    by_cases hi : i = H.length
    · subst hi; rw [Map.put_same] at e1; cases e1; exact .inr (Nat.le_refl _)
    · rw [Map.put_ne _ _ hi] at e1
      have hlt := h.dom i L e1
      rw [List.getElem?_append_left hlt] at e2
      exact .inl ⟨i, L, d, e1, e2, e3, rfl⟩
/-! ### A block changes -/
/-- One abstract block's cells change; the model's block that it lies in is written, and no other. -/
theorem rel_setB {ρ : Map} {H : List Blk} {w w' : World} (h : Rel ρ H w) {id : Nat} {L : Loc} {d : Blk} (e : ρ id = some L) (hd : H[id]? = some d) (ho : d.isOwn) (b' : Blk)
    (hn : holds ρ w' L b') (hw : w'.os = w.os ∧ w'.tape = w.tape ∧ w'.output = w.output ∧ w'.heap.size = w.heap.size)
    (hf : ∀ b, b ≠ L.b → w'.heap[b]? = w.heap[b]?) : Rel ρ (H.set id b') w' ∧ Stp H.length ρ H w ρ (H.set id b') w' := by
  have hlt := h.dom id L e
  have get : ∀ i b, (H.set id b')[i]? = some b → (i = id ∧ b = b') ∨ (i ≠ id ∧ H[i]? = some b) := by
    intro i b hb
    rw [List.getElem?_set] at hb
    split at hb
    · rename_i hi; subst hi; simp at hb; exact .inl ⟨rfl, hb.symm⟩
    · rename_i hi; exact .inr ⟨fun e => hi e.symm, hb⟩
  constructor
  · refine ⟨fun i M e1 => by simp; exact h.dom i M e1, fun i M b e1 e2 => ?_, fun i j M N b f hij e1 e2 h1 h2 hb hf' => ?_⟩
    · rcases get i b e2 with ⟨rfl, rfl⟩ | ⟨hne, e2⟩
      · rw [e] at e1; cases e1; exact hn
      · exact holds_heap (fun hl => hf _ (Ne.symm (h.sep id i L M d b (Ne.symm hne) e e1 hd e2 ho hl))) (h.has i M b e1 e2)
    · rcases get i b h1 with ⟨rfl, rfl⟩ | ⟨_, g1⟩ <;> rcases get j f h2 with ⟨rfl, rfl⟩ | ⟨_, g2⟩
      · exact (hij rfl).elim
      · exact h.sep _ _ _ _ _ _ hij e1 e2 hd g2 ho hf'
      · exact h.sep _ _ _ _ _ _ hij e1 e2 g1 hd hb (Blk.live_of_own ho)
      · exact h.sep _ _ _ _ _ _ hij e1 e2 g1 g2 hb hf'
  · refine ⟨fun _ _ => rfl, hw.1, hw.2.1, hw.2.2.1, by omega, fun b _ hb => hf b (Ne.symm (hb id L d e hd ho)), fun i M b e1 e2 e3 => ?_⟩
    rcases get i b e2 with ⟨rfl, rfl⟩ | ⟨_, g⟩
    · exact .inl ⟨_, M, d, e1, hd, ho, rfl⟩
    · exact .inl ⟨i, M, b, e1, g, e3, rfl⟩

theorem rel_set {ρ : Map} {H : List Blk} {w w' : World} (h : Rel ρ H w) {id : Nat} {L : Loc} {d : Blk} (e : ρ id = some L) (hd : H[id]? = some d) (ho : d.isOwn) (cs : List Sc)
    (hn : holds ρ w' L (.own cs)) (hw : w'.os = w.os ∧ w'.tape = w.tape ∧ w'.output = w.output ∧ w'.heap.size = w.heap.size)
    (hf : ∀ b, b ≠ L.b → w'.heap[b]? = w.heap[b]?) : Rel ρ (H.set id (.own cs)) w' ∧ Stp H.length ρ H w ρ (H.set id (.own cs)) w' := rel_setB h e hd ho _ hn hw hf
/-- A block dies: less is known. -/
theorem rel_kill {ρ : Map} {H : List Blk} {w : World} (h : Rel ρ H w) (id : Nat) : Rel ρ (H.set id .dead) w := by
  have get : ∀ (i : Nat) (b : Blk), (H.set id Blk.dead)[i]? = some b → b = Blk.dead ∨ H[i]? = some b := by
    intro i b hb
    rw [List.getElem?_set] at hb
    split at hb
    · split at hb
      · cases hb; exact .inl rfl
      · cases hb
    · exact .inr hb
  refine ⟨fun i M e1 => by simp; exact h.dom i M e1, fun i M b e1 e2 => ?_, fun i j M N b f hij e1 e2 h1 h2 hb hf' => ?_⟩
  · rcases get i b e2 with rfl | g
    · trivial
    · exact h.has i M b e1 g
  · rcases get i b h1 with rfl | g1
    · exact hb.elim
    · rcases get j f h2 with rfl | g2
      · exact hf'.elim
      · exact h.sep _ _ _ _ _ _ hij e1 e2 g1 g2 hb hf'
theorem stp_kill (n : Nat) (ρ : Map) (H : List Blk) (w : World) (id : Nat) : Stp n ρ H w ρ (H.set id .dead) w := by
  refine ⟨fun _ _ => rfl, rfl, rfl, rfl, Nat.le_refl _, fun _ _ _ => rfl, fun i M b e1 e2 e3 => ?_⟩
  rw [List.getElem?_set] at e2
  split at e2
  · split at e2
    · cases e2; exact e3.elim
    · cases e2
  · exact .inl ⟨i, M, b, e1, e2, e3, rfl⟩
end Go.Proofs.Ytjjhogleiolngaa
