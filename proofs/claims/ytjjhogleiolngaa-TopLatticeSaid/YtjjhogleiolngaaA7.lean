/- The abstract machine: the operations that make blocks or write into them. No program stands here. -/
import Derived.Test.YtjjhogleiolngaaA6
import Derived.Deep.AppendSrc
import Derived.Great.BuildSlice
import Derived.Lib.AppendZeros
namespace Go.Proofs.Ytjjhogleiolngaa
open Go.RowKit

theorem splice_get : ∀ (ys : List Sc) (off : Nat) (cs : List Sc) (j : Nat), off + ys.length ≤ cs.length → (splice off ys cs)[j]? = if off ≤ j ∧ j < off + ys.length then ys[j - off]? else cs[j]?
  | [], off, cs, j, _ => by simp [splice]; intro h1 h2; omega
  | y :: ys, off, cs, j, h => by
    simp only [List.length_cons] at h
    rw [splice, splice_get ys (off + 1) (cs.set off y) j (by simp; omega)]
    by_cases h1 : off + 1 ≤ j ∧ j < off + 1 + ys.length
    · rw [if_pos h1, if_pos (by simp; omega), show j - off = (j - (off + 1)) + 1 by omega, List.getElem?_cons_succ]
    · rw [if_neg h1, List.getElem?_set]
      by_cases h2 : off = j
      · subst h2; rw [if_pos rfl, if_pos (by omega), if_pos (by simp), Nat.sub_self]; rfl
      · rw [if_neg h2, if_neg (by simp; omega)]

/-- What a source of an append or a copy holds: how many elements, the cells. -/
def srcC (H : List Blk) (size : Nat) (i : TI) (x : AC) : Option (Prop × Nat × List Sc) :=
  match i.k, x with
  | .slice _, .sc .nils | .slice _, .sc .sle => some (True, 0, [])
  | .slice _, .sc (.sl id off es len _) => match Blk.cells? H[id]? with
    | some cs => some (es = size ∧ off + len * es ≤ cs.length, len, (cs.drop off).take (len * es))
    | none => none
  | .str, .sc (.str s) => some (size = 1, s.size, s.data.toList.map fun b => .int .u8 b.toNat)
  | _, _ => none

/-- The operations that make blocks or write: the condition, the value, the heap behind. -/
def opM (tab : TypeId → Option TI) (T : Nat → AV) (H : List Blk) : Op → Option (Prop × AC × List Blk)
  | .alloc e => match tab e with
    | some i => match i.zero.cells with
      | some cs => some (True, .sc (.ptr H.length 0), H ++ [.own cs])
      | none => none
    | none => none
  | .box _ x => match (ev T x).ac.cells with
    | some cs => some ((ev T x).gd = true, .sc (.ptr H.length 0), H ++ [.own cs])
    | none => none
  | .buildSlice t len parts => match tab t with
    | some i => match i.k with
      | .slice e => match tab e with
        | some ie => match ie.zero.cells with
          | some z => if len = 0 then (if parts = #[] then some (True, .sc .sle, H) else none) else
            match fillS (fun j => some (j * ie.size, ie.size)) (List.replicate len z).flatten (partsC T parts.toList).2 with
            | some cs => some ((partsC T parts.toList).1 ∧ 0 < ie.size ∧ z.length = ie.size ∧ len * ie.size ≤ 16777216, .sc (.sl H.length 0 ie.size len len), H ++ [.own cs])
            | none => none
          | none => none
        | none => none
      | _ => none
    | none => none
  | .makeSlice t l c => match tab t, (ev T l).ac, (ev T c).ac with
    | some i, .sc (.int _ l'), .sc (.int _ c') => match i.k with
      | .slice e => match tab e with
        | some ie => match ie.zero.cells with
          | some z => some (((ev T l).gd = true ∧ (ev T c).gd = true) ∧ 0 ≤ l' ∧ l' ≤ c' ∧ c' ≤ 9223372036854775807 ∧ (ie.bytes : Int) * c' ≤ 281474976710656 ∧ z.length = ie.size, .sc (.sl H.length 0 ie.size l'.toNat c'.toNat), H ++ [.own (List.replicate c'.toNat z).flatten])
          | none => none
        | none => none
      | _ => none
    | _, _, _ => none
  | .store t x y => match tab t, (ev T x).ac, (ev T y).ac.cells with
    | some i, .sc (.ptr id off), some ys => match H[id]? with
      | some (.own cs) => some (((ev T x).gd = true ∧ (ev T y).gd = true) ∧ ys.length = i.size ∧ off + i.size ≤ cs.length, .top, H.set id (.own (splice off ys cs)))
      | _ => none
    | _, _, _ => none
  | .call { callee := .builtin .append, args, argTypes } => match args.toList, argTypes.toList with
    | [s, x], [t, tx] => match tab t, tab tx with
      | some i, some ix => match i.k with
        | .slice e => match tab e with
          | some ie => match ix.k, (ev T x).ac with
            | .int _, .sc (.int _ n) => match (ev T s).ac, ie.zero.cells with
              | .sc .nils, some z => some (((ev T s).gd = true ∧ (ev T x).gd = true) ∧ 0 < n ∧ 0 < ie.size ∧ n ≤ 9223372036854775807 ∧ n * ie.bytes ≤ 281474976710656 ∧ z.length = ie.size,
                  .sc (.sl H.length 0 ie.size n.toNat n.toNat), H ++ [.own (List.replicate n.toNat z).flatten])
              | _, _ => none
            | _, xv => match srcC H ie.size ix xv with
              | some (p, n, xs) => match (ev T s).ac with
                | .sc .nils => some (((ev T s).gd = true ∧ (ev T x).gd = true) ∧ p ∧ n * ie.bytes ≤ 140737488355328 ∧ n ≤ maxLen,
                    if n = 0 then .sc .nils else .sc (.sl H.length 0 ie.size n n), if n = 0 then H else H ++ [.own xs])
                | .sc .sle => some (((ev T s).gd = true ∧ (ev T x).gd = true) ∧ p ∧ n * ie.bytes ≤ 140737488355328 ∧ n ≤ maxLen,
                    if n = 0 then .sc .sle else .sc (.sl H.length 0 ie.size n n), if n = 0 then H else H ++ [.own xs])
                | .sc (.sl id off es len cap) => match H[id]? with
                  | some (.own cs) => if len + n ≤ cap then some (((ev T s).gd = true ∧ (ev T x).gd = true) ∧ p ∧ es = ie.size ∧ off + (len + n) * es ≤ cs.length,
                      .sc (.sl id off es (len + n) cap), H.set id (.own (splice (off + len * es) xs cs)))
                    else some (((ev T s).gd = true ∧ (ev T x).gd = true) ∧ p ∧ es = ie.size ∧ off + len * es ≤ cs.length ∧ (len + n) * ie.bytes ≤ 140737488355328 ∧ len + n ≤ maxLen,
                      .sc (.sl H.length 0 ie.size (len + n) (len + n)), H.set id .dead ++ [.own ((cs.drop off).take (len * es) ++ xs)])
                  | _ => none
                | _ => none
              | none => none
          | none => none
        | _ => none
      | _, _ => none
    | _, _ => none
  | .call { callee := .builtin .copy, args, argTypes } => match args.toList, argTypes.toList with
    | [s, x], [t, tx] => match tab t, tab tx with
      | some i, some ix => match i.k with
        | .slice e => match tab e with
          | some ie => match srcC H ie.size ix (ev T x).ac with
            | some (p, n, xs) => match (ev T s).ac with
              | .sc .nils | .sc .sle => some (((ev T s).gd = true ∧ (ev T x).gd = true) ∧ p, .sc (.int .i64 0), H)
              | .sc (.sl id off es len _) => match H[id]? with
                | some (.own cs) => some (((ev T s).gd = true ∧ (ev T x).gd = true) ∧ p ∧ es = ie.size ∧ off + len * es ≤ cs.length ∧ len ≠ 0,
                    .sc (.int .i64 (Nat.min n len : Nat)), H.set id (.own (splice off (xs.take (Nat.min n len * es)) cs)))
                | _ => none
              | _ => none
            | none => none
          | none => none
        | _ => none
      | _, _ => none
    | _, _ => none
  | .call { callee := .builtin .clear, args, argTypes } => match args.toList, argTypes.toList with
    | [s], [t] => match tab t with
      | some i => match i.k with
        | .slice e => match tab e with
          | some ie => match ie.zero.cells, (ev T s).ac with
            | some _, .sc .nils | some _, .sc .sle => some ((ev T s).gd = true, .top, H)
            | some z, .sc (.sl id off es len _) => match H[id]? with
              | some (.own cs) => some ((ev T s).gd = true ∧ es = ie.size ∧ z.length = ie.size ∧ off + len * es ≤ cs.length, .top, H.set id (.own (splice off (List.replicate len z).flatten cs)))
              | _ => none
            | _, _ => none
          | none => none
        | _ => none
      | none => none
    | _, _ => none
  | _ => none

/-- What such an operation does in this world. -/
def Moves (P : Program) (a : Act) (o : Oper) (w : World) (ρ : Map) (H : List Blk) (v : AC) (H' : List Blk) : Prop :=
  ∃ r w' ρ', (execOp a.eval o).run P w = .ok r w' ∧ (∃ u, (r = .value u ∨ (r = .skip ∧ u = undef)) ∧ relC ρ' v u) ∧ Rel ρ' H' w' ∧ Stp H.length ρ H w ρ' H' w'

section
variable {P : Program} {tab : TypeId → Option TI} {ρ : Map} {w : World} {T : Nat → AV} {H : List Blk} {N : Nat} {a : Act}

theorem moves_of {o : Oper} {s : Sem Value} {v : AC} {H' : List Blk} (he : execOp a.eval o = (do pure (.value (← s)))) (h : ∃ u w' ρ', s.run P w = .ok u w' ∧ relC ρ' v u ∧ Rel ρ' H' w' ∧ Stp H.length ρ H w ρ' H' w') : Moves P a o w ρ H v H' := by
  obtain ⟨u, w', ρ', hu, h1, h2, h3⟩ := h
  exact ⟨.value u, w', ρ', by rw [he, Sem.run_bind, hu]; rfl, ⟨u, .inl rfl, h1⟩, h2, h3⟩
theorem moves_of_unit {o : Oper} {s : Sem Unit} {H' : List Blk} (he : execOp a.eval o = (do s; pure .skip)) (h : ∃ w' ρ', s.run P w = .ok () w' ∧ Rel ρ' H' w' ∧ Stp H.length ρ H w ρ' H' w') : Moves P a o w ρ H .top H' := by
  obtain ⟨w', ρ', hu, h2, h3⟩ := h
  exact ⟨.skip, w', ρ', by rw [he, Sem.run_bind, hu]; rfl, ⟨undef, .inr ⟨rfl, rfl⟩, trivial⟩, h2, h3⟩

/-- A new block, larger than what is known of it. -/
theorem rel_allocN (hr : Rel ρ H w) (c : Array Value) (e : TypeId) (cs : List Sc) (n : Nat) (hn : cs.length ≤ n) (hn' : n ≤ c.size) (hc : ∀ σ : Map, ρ.le σ → cellsAt σ c 0 cs) :
    Rel (ρ.put H.length ⟨w.heap.size, 0, n⟩) (H ++ [.own cs]) (w.alloc (.cells c e)) ∧
    Stp H.length ρ H w (ρ.put H.length ⟨w.heap.size, 0, n⟩) (H ++ [.own cs]) (w.alloc (.cells c e)) := by
  have hl := hc _ (hr.put_le ⟨w.heap.size, 0, n⟩)
  have h1 : Rel ρ H (w.alloc (.cells c e)) := hr.world fun i L d e1 e2 e3 => Below.heap_alloc w _ _ (hr.lt e1 e2 e3)
  constructor
  · refine h1.push _ _ ⟨hn, c, e, heap_alloc_new w _, by simpa using hn', hl⟩ fun i M d e1 e2 e3 => ?_
    have := hr.lt e1 e2 e3; simp; omega
  · refine ⟨fun i hi => Map.put_ne _ _ (by omega), rfl, rfl, rfl, by simp, fun b hb _ => Below.heap_alloc w _ _ hb, fun i L d e1 e2 e3 => ?_⟩
    by_cases hi : i = H.length
    · subst hi; rw [Map.put_same] at e1; cases e1; exact .inr (Nat.le_refl _)
    · rw [Map.put_ne _ _ hi] at e1
      have hlt := hr.dom i L e1
      rw [List.getElem?_append_left hlt] at e2
      exact .inl ⟨i, L, d, e1, e2, e3, rfl⟩
theorem cellsAt_of_relL {cs : List Sc} {c : Array Value} (h : relL ρ cs c) : cellsAt ρ c 0 cs := fun j x hj => by simpa using h.2 j x hj
theorem relL_one {cs : List Sc} {c : Array Value} (h : relL ρ cs c) : ∀ u ∈ c.toList, u.oneCell' = true := by
  intro u hu
  obtain ⟨j, hj⟩ := List.getElem?_of_mem hu
  simp only [Array.getElem?_toList] at hj
  have hlt : j < cs.length := by rw [← h.1]; exact (Array.getElem?_eq_some_iff.1 hj).1
  obtain ⟨v, hv, r⟩ := h.2 j _ (List.getElem?_eq_getElem hlt)
  rw [hj] at hv; cases hv
  exact relS_one r
theorem relL_append {xs ys : List Sc} {us vs : Array Value} (h : relL ρ xs us) (k : relL ρ ys vs) : relL ρ (xs ++ ys) (us ++ vs) := by
  refine ⟨by simp [h.1, k.1], fun j x hj => ?_⟩
  by_cases hlt : j < xs.length
  · rw [List.getElem?_append_left hlt] at hj
    obtain ⟨u, hu, r⟩ := h.2 j x hj
    exact ⟨u, by rw [Array.getElem?_append_left (by rw [h.1]; exact hlt)]; exact hu, r⟩
  · rw [List.getElem?_append_right (by omega)] at hj
    obtain ⟨u, hu, r⟩ := k.2 _ x hj
    exact ⟨u, by rw [Array.getElem?_append_right (by rw [h.1]; omega), h.1]; exact hu, r⟩

/-- Zero cells over and over. -/
theorem zeros_get (z : List Sc) (n j : Nat) : (List.replicate n z).flatten[j]? = if j < n * z.length then z[j % z.length]? else none := by
  induction n generalizing j with
  | zero => simp
  | succ n ih =>
    rw [List.replicate_succ, List.flatten_cons]
    by_cases hlt : j < z.length
    · rw [List.getElem?_append_left hlt, if_pos (by rw [Nat.add_mul]; omega), Nat.mod_eq_of_lt hlt]
    · rw [List.getElem?_append_right (by omega), ih]
      rw [Nat.add_mul, Nat.one_mul]
      by_cases h : j - z.length < n * z.length
      · rw [if_pos h, if_pos (by omega), Nat.mod_eq_sub_mod (a := j) (by omega)]
      · rw [if_neg h, if_neg (by omega)]
theorem zeros_len (z : List Sc) (n : Nat) : (List.replicate n z).flatten.length = n * z.length := by simp [List.length_flatten]
theorem relL_zeros {z : List Sc} {zv : Array Value} (h : relL ρ z zv) (n k : Nat) (hk : k = n * z.length) : relL ρ (List.replicate n z).flatten ((Array.range k).map (zv[· % zv.size]!)) := by
  subst hk
  refine ⟨by simp, fun j x hj => ?_⟩
  rw [zeros_get] at hj
  split at hj
  · rename_i hlt
    obtain ⟨u, hu, r⟩ := h.2 _ x hj
    refine ⟨u, ?_, r⟩
    rw [Array.getElem?_map, Array.getElem?_range, if_pos hlt]
    simp only [Option.map_some, h.1]
    congr 1
    rw [getElem!_def, hu]
  · cases hj

theorem zero_of (ht : TabOk P tab) {e : TypeId} {ie : TI} (hie : tab e = some ie) {z : List Sc} (hz : ie.zero.cells = some z) : ∃ f zv, P.info? e = some f ∧ f.size = ie.size ∧ f.bytes = ie.bytes ∧ f.zero = some zv ∧ ∀ σ, relL σ z zv.cells := by
  obtain ⟨f, h1, h2, h3, zv, h4, h5⟩ := (ht e ie hie).info
  exact ⟨f, zv, h1, h2, h3, h4, fun σ => cells_rel (h5 σ) hz⟩

/-- What is stored: the block's cells behind. -/
theorem cellsAt_splice {c : Array Value} {o off : Nat} {cs ys : List Sc} {us : Array Value} (h : cellsAt ρ c o cs) (hy : relL ρ ys us) (hl : off + ys.length ≤ cs.length) (hc : o + cs.length ≤ c.size) :
    cellsAt ρ (c.toList.take (o + off) ++ us.toList ++ c.toList.drop (o + off + us.toList.length)).toArray o (splice off ys cs) := by
  intro j x hj
  rw [splice_get _ _ _ _ hl] at hj
  have hsz : us.size = ys.length := hy.1
  have hus : us.toList.length = ys.length := by simpa using hy.1
  split at hj
  · rename_i hlt
    obtain ⟨u, hu, r⟩ := hy.2 _ x hj
    refine ⟨u, ?_, r⟩
    rw [List.getElem?_toArray, List.append_assoc, List.getElem?_append_right (by simp; omega), List.getElem?_append_left (by simp; omega)]
    rw [← hu, Array.getElem?_toList]
    congr 1; simp; omega
  · rename_i hlt
    obtain ⟨u, hu, r⟩ := h j x hj
    have hjl : j < cs.length := (List.getElem?_eq_some_iff.1 hj).1
    refine ⟨u, ?_, r⟩
    rw [List.getElem?_toArray, List.append_assoc]
    by_cases h1 : j < off
    · rw [List.getElem?_append_left (by simp; omega), List.getElem?_take, if_pos (by omega)]; simpa using hu
    · rw [List.getElem?_append_right (by simp; omega), List.getElem?_append_right (by simp; omega), List.getElem?_drop]
      simp only [List.length_take, Array.length_toList]
      rw [show o + off + us.size + (o + j - min (o + off) c.size - us.size) = o + j by simp at hus; omega]
      simpa using hu

/-- A store into a block of one's own. -/
theorem rel_store (hr : Rel ρ H w) {id off : Nat} {L : Loc} {cs ys : List Sc} {us : Array Value} (e : ρ id = some L) (hd : H[id]? = some (.own cs)) (hy : relL ρ ys us) (hl : off + ys.length ≤ cs.length) :
    ∃ w', (storeCells ⟨L.b, L.o + off, none⟩ us.toList).run P w = .ok () w' ∧ Rel ρ (H.set id (.own (splice off ys cs))) w' ∧ Stp H.length ρ H w ρ (H.set id (.own (splice off ys cs))) w' := by
  obtain ⟨hcl, c, et, h1, h2, h3⟩ := hr.has id L _ e hd
  have hus : us.toList.length = ys.length := by simpa using hy.1
  have hst := run_storeCells_at P L.b (L.o + off) et us.toList 0 c w h1 (by omega) (relL_one hy)
  simp only [Nat.add_zero] at hst
  refine ⟨_, hst, ?_⟩
  refine rel_set hr e hd trivial _ ⟨by rw [splice_length]; exact hcl, _, et, setRow_heap w L.b c _ et _ h1, ?_, cellsAt_splice h3 hy hl (by omega)⟩ ⟨rfl, rfl, rfl, by simp [World.setRow]⟩ fun b hb => setRow_other w L.b b _ hb
  simp; omega
end
end Go.Proofs.Ytjjhogleiolngaa
