/- The abstract machine: the law of the computing and reading operations. No program stands here. -/
import Derived.Test.YtjjhogleiolngaaA5
import Derived.Laws.Tables
namespace Go.Proofs.Ytjjhogleiolngaa
open Go.RowKit

section
variable {P : Program} {tab : TypeId → Option TI} {ρ : Map} {w : World} {T : Nat → AV} {H : List Blk} {N : Nat} {a : Act}

theorem fit1 {o : Op} {x : Operand} (hf : opFit N o = true) (h : o.operands = #[x]) : Operand.fit N x = true := by
  simpa [opFit, h] using hf
theorem fit2 {o : Op} {x y : Operand} (hf : opFit N o = true) (h : o.operands = #[x, y]) : Operand.fit N x = true ∧ Operand.fit N y = true := by
  simpa [opFit, h] using hf
theorem fit3 {o : Op} {x y z : Operand} (hf : opFit N o = true) (h : o.operands = #[x, y, z]) : Operand.fit N x = true ∧ Operand.fit N y = true ∧ Operand.fit N z = true := by
  simpa [opFit, h] using hf

/-- What an operation yields in this world, without changing it. -/
def Yields (P : Program) (a : Act) (o : Oper) (w : World) (ρ : Map) (v : AC) : Prop := ∃ u, (execOp a.eval o).run P w = .ok (.value u) w ∧ relC ρ v u

theorem yields_of {o : Oper} {s : Sem Value} {v : AC} (he : execOp a.eval o = (do pure (.value (← s)))) (h : ∃ u, s.run P w = .ok u w ∧ relC ρ v u) : Yields P a o w ρ v := by
  obtain ⟨u, hu, hr⟩ := h
  refine ⟨u, ?_, hr⟩
  rw [he, Sem.run_bind, hu]; rfl

theorem pick_rel {t : Bool} {x y : AC} {u v : Value} (hx : t = true → relC ρ x u) (hy : t = false → relC ρ y v) : relC ρ (pickC t x y) (if t then u else v) := by
  unfold pickC
  split
  · cases t
    · exact hy rfl
    · exact hx rfl
  · cases t
    · exact hy rfl
    · exact hx rfl

theorem relS_ptr {id off : Nat} {v : Value} (h : relC ρ (.sc (.ptr id off)) v) : ∃ L, ρ id = some L ∧ v = .pointer (some ⟨L.b, L.o + off, none⟩) := h

theorem places_of : ∀ (fs : List Field), (∀ f ∈ fs, (P.info? f.type).isSome = true) → ∃ places : List (Nat × Nat), fs.mapM (fun f => (P.info? f.type).map fun i => (f.offset, i.size)) = some places ∧
    ∀ (j : Nat) (fd : Field) (i : TypeInfo), fs[j]? = some fd → P.info? fd.type = some i → places[j]? = some (fd.offset, i.size)
  | [], _ => ⟨[], rfl, fun j fd i h => by simp at h⟩
  | f :: fs, h => by
    obtain ⟨i, hi⟩ := Option.isSome_iff_exists.1 (h f (by simp))
    obtain ⟨pl, h1, h2⟩ := places_of fs (fun g hg => h g (by simp [hg]))
    refine ⟨(f.offset, i.size) :: pl, by simp [List.mapM_cons, hi, h1], fun j fd i' hj hi' => ?_⟩
    cases j with
    | zero => simp at hj; subst hj; rw [hi] at hi'; cases hi'; rfl
    | succ j => simpa using h2 j fd i' (by simpa using hj) hi'

theorem opQ_sound (ht : TabOk P tab) (hs : Slots ρ N T a) (hr : Rel ρ H w) {o : Oper} (hf : opFit N o.op = true) {p : Prop} {v : AC} (hq : opQ tab T H o.op = some (p, v)) (hp : p) : Yields P a o w ρ v := by
  obtain ⟨dst, op, ty, pos, after, guard⟩ := o
  simp only at hf hq
  have A : ∀ {x : Operand}, Operand.fit N x = true → (ev T x).gd = true → relC ρ (ev T x).ac (a.eval x) := fun h g => ac_rel hs h g
  unfold opQ at hq
  split at hq
  · -- move
    rename_i x
    simp only [Option.some.injEq, Prod.mk.injEq] at hq; obtain ⟨rfl, rfl⟩ := hq
    exact ⟨_, rfl, A (fit1 hf rfl) hp⟩
  · rename_i x
    simp only [Option.some.injEq, Prod.mk.injEq] at hq; obtain ⟨rfl, rfl⟩ := hq
    exact ⟨_, rfl, A (fit1 hf rfl) hp⟩
  · -- pick
    rename_i c x y
    split at hq
    · rename_i t hc
      simp only [Option.some.injEq, Prod.mk.injEq] at hq; obtain ⟨rfl, rfl⟩ := hq
      obtain ⟨f1, f2, f3⟩ := fit3 hf rfl
      have hcv := A f1 hp.1
      rw [hc] at hcv
      have hcv : a.eval c = .bool t := hcv
      refine ⟨if t then a.eval x else a.eval y, by simp [execOp, hcv, asBool], pick_rel (fun e => A f2 (hp.2.1 e)) (fun e => A f3 (hp.2.2 e))⟩
    · cases hq
  · -- binOp
    rename_i op t x y yt
    split at hq
    · rename_i i hi
      split at hq
      · rename_i p' v' hb
        simp only [Option.some.injEq, Prod.mk.injEq] at hq; obtain ⟨rfl, rfl⟩ := hq
        obtain ⟨f1, f2⟩ := fit2 hf rfl
        exact yields_of rfl (binC_sound (ht t i hi) op (A f1 hp.1) (A f2 hp.2.1) hb hp.2.2 x y)
      · cases hq
    · cases hq
  · -- unOp
    rename_i op t x
    split at hq
    · rename_i b hx
      simp only [Option.some.injEq, Prod.mk.injEq] at hq; obtain ⟨rfl, rfl⟩ := hq
      have hv := A (fit1 hf rfl) hp
      rw [hx] at hv
      have hv : a.eval x = .bool b := hv
      exact yields_of rfl ⟨_, by rw [hv]; rfl, rfl⟩
    · rename_i k n hx
      simp only [Option.some.injEq, Prod.mk.injEq] at hq; obtain ⟨rfl, rfl⟩ := hq
      have hv := A (fit1 hf rfl) hp
      rw [hx] at hv
      have hv : a.eval x = .int k n := hv
      exact yields_of rfl ⟨_, by rw [hv]; rfl, rfl⟩
    · rename_i k n hx
      simp only [Option.some.injEq, Prod.mk.injEq] at hq; obtain ⟨rfl, rfl⟩ := hq
      have hv := A (fit1 hf rfl) hp
      rw [hx] at hv
      have hv : a.eval x = .int k n := hv
      exact yields_of rfl ⟨_, by rw [hv]; rfl, rfl⟩
    · cases hq
  · -- fieldAddr
    rename_i s x f
    split at hq
    · rename_i i id off hi hx
      split at hq
      · rename_i fs hk
        split at hq
        · rename_i fo ft hfd
          split at hq
          · rename_i ift hift
            simp only [Option.some.injEq, Prod.mk.injEq] at hq; obtain ⟨rfl, rfl⟩ := hq
            have hv := A (fit1 hf rfl) hp.1
            rw [hx] at hv
            obtain ⟨L, e1, e2⟩ := relS_ptr hv
            obtain ⟨F, hF, hFs, _⟩ := (ht s i hi).struct hk
            have hff : ∃ fd, F[f]? = some fd ∧ fd.offset = fo ∧ fd.type = ft := by
              rw [← hFs] at hfd
              simp only [List.getElem?_map, Option.map_eq_some_iff, Prod.mk.injEq, Array.getElem?_toList] at hfd
              obtain ⟨fd, h1, h2, h3⟩ := hfd
              exact ⟨fd, h1, h2, h3⟩
            obtain ⟨fd, h1, h2, h3⟩ := hff
            refine yields_of rfl ⟨.pointer (some ⟨L.b, L.o + (off + fo), none⟩), ?_, L, e1, rfl⟩
            have hsz := (ht ft ift hift).size w
            rw [← h3] at hsz
            have hne : ift.size ≠ 0 := hp.2
            simp [Instr.fieldAt, run_underlying hF, h1, e2, Instr.sureAddr, fieldPlace, hsz, hne, add_at, h2, Nat.add_assoc]
          · cases hq
        · cases hq
      · cases hq
    · cases hq
  · -- indexAddr
    rename_i t x ix
    obtain ⟨f1, f2⟩ := fit2 hf rfl
    split at hq
    · rename_i i id off es len cap k n hi hx hix
      split at hq
      · rename_i e hk
        split at hq
        · rename_i ie hie
          simp only [Option.some.injEq, Prod.mk.injEq] at hq; obtain ⟨rfl, rfl⟩ := hq
          obtain ⟨⟨g1, g2⟩, h1, h2, h3⟩ := hp
          have hv := A f1 g1
          have hw := A f2 g2
          rw [hx] at hv
          rw [hix] at hw
          obtain ⟨L, ad, c, e1, e2, l1, l2, l3, l4⟩ := hv
          have hw : a.eval ix = .int k n := hw
          subst h1
          refine yields_of rfl ⟨.pointer (some ⟨L.b, L.o + (off + n.toNat * ie.size), none⟩), ?_, L, e1, rfl⟩
          rcases l4 with h5 | ⟨h5, h6⟩
          · omega
          · simp [Instr.indexAt, run_underlying ((ht t i hi).slice hk), e2, hw, asIntOf, h2, h3, (ht e ie hie).size, h5, add_at, Nat.add_assoc]
        · cases hq
      · cases hq
    · rename_i i id off k n hi hx hix
      split at hq
      · rename_i m e hk
        split at hq
        · rename_i ie hie
          simp only [Option.some.injEq, Prod.mk.injEq] at hq; obtain ⟨rfl, rfl⟩ := hq
          obtain ⟨⟨g1, g2⟩, h2, h3⟩ := hp
          have hv := A f1 g1
          have hw := A f2 g2
          rw [hx] at hv
          rw [hix] at hw
          obtain ⟨L, e1, e2⟩ := relS_ptr hv
          have hw : a.eval ix = .int k n := hw
          refine yields_of rfl ⟨.pointer (some ⟨L.b, L.o + (off + n.toNat * ie.size), none⟩), ?_, L, e1, rfl⟩
          simp [Instr.indexAt, run_underlying ((ht t i hi).arr hk), e2, hw, asIntOf, h2, h3, (ht e ie hie).size, Instr.sureAddr, add_at, Nat.add_assoc]
        · cases hq
      · cases hq
    · cases hq
  · -- load
    rename_i t x
    split at hq
    · rename_i i id off hi hx
      split at hq
      · rename_i cs hcs
        split at hq
        · rename_i p' v' hl
          simp only [Option.some.injEq, Prod.mk.injEq] at hq; obtain ⟨rfl, rfl⟩ := hq
          have hv := A (fit1 hf rfl) hp.1
          rw [hx] at hv
          obtain ⟨L, e1, e2⟩ := relS_ptr hv
          obtain ⟨c, et, fr, h1, h2⟩ := hr.cells e1 hcs
          obtain ⟨u, hu, hru⟩ := load_sound (P := P) (w := w) (ht t i hi) hl hp.2 h1 h2
          exact yields_of rfl ⟨u, by rw [e2]; exact hu, hru⟩
        · cases hq
      · cases hq
    · cases hq
  · -- index
    rename_i t x ix
    obtain ⟨f1, f2⟩ := fit2 hf rfl
    split at hq
    · rename_i i cs k n hi hx hix
      split at hq
      · rename_i m e hk
        split at hq
        · rename_i ie hie
          split at hq
          · rename_i p' v' hl
            simp only [Option.some.injEq, Prod.mk.injEq] at hq; obtain ⟨rfl, rfl⟩ := hq
            obtain ⟨⟨g1, g2⟩, h2, h3, h4⟩ := hp
            have hv := A f1 g1
            have hw := A f2 g2
            rw [hx] at hv
            rw [hix] at hw
            obtain ⟨vs, e1, e2⟩ := hv
            have hw : a.eval ix = .int k n := hw
            obtain ⟨u, hu, hru⟩ := part_sound (P := P) (w := w) (ht e ie hie) hl h4 e2
            refine yields_of rfl ⟨u, ?_, hru⟩
            simp [Instr.index, run_underlying ((ht t i hi).arr hk), e1, hw, asIntOf, h2, h3, (ht e ie hie).size, hu]
          · cases hq
        · cases hq
      · cases hq
    · rename_i i s k n hi hx hix
      split at hq
      · rename_i hk
        simp only [Option.some.injEq, Prod.mk.injEq] at hq; obtain ⟨rfl, rfl⟩ := hq
        obtain ⟨⟨g1, g2⟩, h2, h3⟩ := hp
        have hv := A f1 g1
        have hw := A f2 g2
        rw [hx] at hv
        rw [hix] at hw
        have hv : a.eval x = .string s := hv
        have hw : a.eval ix = .int k n := hw
        have hlt : n.toNat < s.size := by omega
        refine yields_of rfl ⟨_, ?_, rfl⟩
        have e : s[n.toNat]? = some s[n.toNat] := by simp [hlt]
        simp [Instr.index, run_underlying ((ht t i hi).str hk), hv, hw, asIntOf, h2, e]
      · cases hq
    · cases hq
  · -- nilCheck
    rename_i x
    split at hq
    · rename_i id off hx
      simp only [Option.some.injEq, Prod.mk.injEq] at hq; obtain ⟨rfl, rfl⟩ := hq
      have hv := A (fit1 hf rfl) hp
      rw [hx] at hv
      obtain ⟨L, e1, e2⟩ := relS_ptr hv
      exact ⟨_, by simp [execOp, e2], L, e1, rfl⟩
    · rename_i f cs hx
      simp only [Option.some.injEq, Prod.mk.injEq] at hq; obtain ⟨rfl, rfl⟩ := hq
      have hv := A (fit1 hf rfl) hp
      rw [hx] at hv
      obtain ⟨vs, e1, e2⟩ := hv
      exact ⟨_, by simp [execOp, e1], vs, rfl, e2⟩
    · cases hq
  · -- build
    rename_i t parts
    have hfp : (parts.toList.map (·.2)).all (Operand.fit N) = true := by simpa [opFit, Op.operands] using hf
    split at hq
    · rename_i i hi
      obtain ⟨zv, hz, hzr⟩ := (ht t i hi).zeroV (P := P) w
      split at hq
      · rename_i fs z hk hzz
        split at hq
        · rename_i cs hfl
          simp only [Option.some.injEq, Prod.mk.injEq] at hq; obtain ⟨rfl, rfl⟩ := hq
          obtain ⟨F, hF, hFs, hFi⟩ := (ht t i hi).struct hk
          have hz0 := hzr ρ
          rw [hzz] at hz0
          obtain ⟨zs, rfl, hzl⟩ := hz0
          have hpr := parts_sound (ρ := ρ) hs hfp hp
          obtain ⟨places, hpl, hpj⟩ := places_of (P := P) F.toList hFi
          have hpp : ∀ (j : Nat) (q : Nat × Nat), (match fs[j]? with | some (o, ft) => (match tab ft with | some ift => some (o, ift.size) | none => none) | none => none) = some q → places[j]? = some q := fun j q hj => by
            split at hj
            · rename_i o ft hfj
              split at hj
              · rename_i ift hift
                cases hj
                rw [← hFs] at hfj
                simp only [List.getElem?_map, Option.map_eq_some_iff, Prod.mk.injEq] at hfj
                obtain ⟨fd, q1, q2, q3⟩ := hfj
                obtain ⟨f, z1, z2, _⟩ := (ht ft ift hift).info
                rw [hpj j fd f q1 (by rw [q3]; exact z1), q2, z2]
              · cases hj
            · cases hj
          obtain ⟨os, ho, hro⟩ := fill_sound hpp _ _ _ _ _ hpr hzl hfl
          refine yields_of rfl ⟨.agg os, ?_, os, rfl, hro⟩
          obtain ⟨f, z1, _, _, z, z4, _⟩ := (ht t i hi).info
          have hzv : z = .agg zs := by
            have : (zeroValue t).run P w = .ok z w := by simp [zeroValue, typeInfo, z1, z4]
            rw [this] at hz; cases hz; rfl
          subst hzv
          refine run_build w t _ os ?_
          unfold Program.built
          simp only [z1, hF, z4, hpl, Value.cells, Array.toList_map, List.getElem?_toArray]
          exact ho
        · cases hq
      · rename_i n e z hk hzz
        split at hq
        · rename_i ie hie
          split at hq
          · rename_i cs hfl
            simp only [Option.some.injEq, Prod.mk.injEq] at hq; obtain ⟨rfl, rfl⟩ := hq
            have hz0 := hzr ρ
            rw [hzz] at hz0
            obtain ⟨zs, rfl, hzl⟩ := hz0
            have hpr := parts_sound (ρ := ρ) hs hfp hp
            obtain ⟨os, ho, hro⟩ := fill_sound (fun _ _ h => h) _ _ _ _ _ hpr hzl hfl
            refine yields_of rfl ⟨.agg os, ?_, os, rfl, hro⟩
            simp only [Instr.build, Sem.run_bind, hz, Result.andThen_ok, Value.cells, run_underlying ((ht t i hi).arr hk), (ht e ie hie).size, Array.toList_map]
            have ho' : Instr.fill (fun i => some (i * ie.size, ie.size)) zs (List.map (fun x => (x.1, a.eval x.2)) parts.toList) = some os := ho
            rw [ho']; rfl
          · cases hq
        · cases hq
      · cases hq
    · cases hq
  · -- extract
    rename_i x j
    split at hq
    · rename_i xs hx
      split at hq
      · rename_i v' hv'
        simp only [Option.some.injEq, Prod.mk.injEq] at hq; obtain ⟨rfl, rfl⟩ := hq
        have hv := ev_rel hs (fit1 hf rfl)
        rw [hx] at hv
        obtain ⟨vs, e1, e2, e3⟩ := hv
        obtain ⟨u, hu, hru⟩ := e3 j _ hv'
        exact yields_of rfl ⟨u, by simp [Instr.extract, e1, hu], hru⟩
      · cases hq
    · cases hq
  · -- convert
    rename_i src dst x
    have f1 := fit1 hf rfl
    split at hq
    · rename_i i j k n hi hj hx
      split at hq
      · rename_i k0 k' hk0 hk
        simp only [Option.some.injEq, Prod.mk.injEq] at hq; obtain ⟨rfl, rfl⟩ := hq
        have hv := A f1 hp
        rw [hx] at hv
        have hv : a.eval x = .int k n := hv
        refine yields_of rfl ⟨.int k' (k'.wrap n), ?_, rfl⟩
        simp [convert, run_underlying ((ht src i hi).int hk0), run_underlying ((ht dst j hj).int hk), hv, Conv.intToInt]
      · cases hq
    · rename_i i j s hi hj hx
      split at hq
      · rename_i hk0 hk
        simp only [Option.some.injEq, Prod.mk.injEq] at hq; obtain ⟨rfl, rfl⟩ := hq
        have hv := A f1 hp
        rw [hx] at hv
        have hv : a.eval x = .string s := hv
        refine yields_of rfl ⟨.string s, ?_, rfl⟩
        simp [convert, run_underlying ((ht src i hi).str hk0), run_underlying ((ht dst j hj).str hk), hv]
      · cases hq
    · rename_i i j id off es len cap hi hj hx
      split at hq
      · rename_i e cs hk0 hk hcs
        split at hq
        · rename_i ie hie
          split at hq
          · rename_i hke
            simp only [Option.some.injEq, Prod.mk.injEq] at hq; obtain ⟨rfl, rfl⟩ := hq
            obtain ⟨g1, rfl, h2, h3⟩ := hp
            have hv := A f1 g1
            rw [hx] at hv
            obtain ⟨L, ad, c, e1, e2, l1, l2, l3, l4⟩ := hv
            obtain ⟨cc, et, fr, c1, c2⟩ := hr.cells e1 hcs
            have hrl := relL_slice c2 off len h2
            have hlc : ∃ cells : Array Value, (loadCells ad len).run P w = .ok cells w ∧ relL ρ ((cs.drop off).take len) cells := by
              by_cases h0 : len = 0
              · subst h0; exact ⟨#[], rfl, by simp, fun j x h => by simp at h⟩
              · rcases l4 with l4 | ⟨l4, _⟩
                · omega
                · subst l4; exact ⟨_, loadCells_at c1 (size_at c2 h2), hrl⟩
            obtain ⟨cells, hlc, hrc⟩ := hlc
            refine yields_of rfl ⟨_, ?_, rfl⟩
            simp only [convert, run_underlying ((ht src i hi).slice hk0), run_underlying ((ht dst j hj).str hk), e2, run_underlying ((ht e ie hie).int hke), Sem.run_bind, Result.andThen_ok, Conv.bytesToString, hlc, ← Array.forIn_toList]
            rw [bytes_fold (P := P) (w := w) (ρ := ρ) _ (fun n s => rfl) cells.toList _ ByteArray.empty (by simpa using hrc) h3]
            simp [ByteArray.empty, ByteArray.emptyWithCapacity]
            rfl
          · cases hq
        · cases hq
      · cases hq
    · rename_i i j hi hj hx
      split at hq
      · rename_i e hk0 hk
        split at hq
        · rename_i ie hie
          split at hq
          · rename_i hke
            simp only [Option.some.injEq, Prod.mk.injEq] at hq; obtain ⟨rfl, rfl⟩ := hq
            have hv := A f1 hp
            rw [hx] at hv
            have hv : a.eval x = .slice none 0 0 := hv
            refine yields_of rfl ⟨_, ?_, rfl⟩
            simp only [convert, run_underlying ((ht src i hi).slice hk0), run_underlying ((ht dst j hj).str hk), hv, run_underlying ((ht e ie hie).int hke), Sem.run_bind, Result.andThen_ok, Conv.bytesToString]
            rfl
          · cases hq
        · cases hq
      · cases hq
    · cases hq
  · -- slice
    rename_i t x lo hi mx
    have hfx : Operand.fit N x = true ∧ (∀ y, lo = some y → Operand.fit N y = true) ∧ (∀ y, hi = some y → Operand.fit N y = true) ∧ (∀ y, mx = some y → Operand.fit N y = true) := by
      simp only [opFit, Op.operands, Array.toList_append, List.all_append, Bool.and_eq_true, Option.toList_toArray] at hf
      refine ⟨by simpa using hf.1.1.1, fun y e => ?_, fun y e => ?_, fun y e => ?_⟩ <;> subst e
      · simpa using hf.1.1.2
      · simpa using hf.1.2
      · simpa using hf.2
    obtain ⟨f1, f2, f3, f4⟩ := hfx
    have B : ∀ {o : Option Operand} {p : Prop} {n : Int}, (∀ y, o = some y → Operand.fit N y = true) → bnd T 0 o = some (p, n) → p → (o = none ∧ n = 0) ∨ ∃ k, o.map a.eval = some (.int k n) := fun {o p n} hfo hb hpb => by
      cases o with
      | none => simp only [bnd, Option.some.injEq, Prod.mk.injEq] at hb; exact .inl ⟨rfl, hb.2.symm⟩
      | some y => obtain ⟨k, e⟩ := bnd_sound hs (hfo y rfl) hb hpb; exact .inr ⟨k, by simp [e]⟩
    split at hq
    · rename_i i hti
      have key : ∀ {l h : Int} {m : Option Int} {pl ph : Prop} {p' : Prop} {v' : AC}, bnd T 0 lo = some (pl, l) → bnd T 0 hi = some (ph, h) → ((mx = none ∧ m = none) ∨ ∃ k q, mx.map a.eval = some (.int k q) ∧ m = some q) → sliceC tab H i (ev T x).ac l h hi.isSome m = some (p', v') →
          (ev T x).gd = true → pl → ph → p' → Yields P a ⟨dst, .slice t x lo hi mx, ty, pos, after, guard⟩ w ρ v' := fun {l h m pl ph p' v'} b1 b2 b3 b4 g1 g2 g3 g4 => by
        refine yields_of rfl (sliceC_sound (P := P) (w := w) ht hti (A f1 g1) hr (ho := hi.map a.eval) (lo := lo.map a.eval) (mo := mx.map a.eval) (by simpa using b4) g4 ?_ ?_ ?_)
        · rcases B f2 b1 g2 with ⟨rfl, e⟩ | ⟨k, e⟩
          · exact .inl ⟨rfl, e⟩
          · exact .inr ⟨k, e⟩
        · intro q hq
          rcases B f3 b2 g3 with ⟨rfl, e⟩ | ⟨k, e⟩
          · simp at hq
          · rw [e] at hq; cases hq; exact ⟨k, rfl⟩
        · rcases b3 with ⟨rfl, e⟩ | ⟨k, q, e, e'⟩
          · exact .inl ⟨rfl, e⟩
          · exact .inr ⟨k, q, e, e'⟩
      split at hq
      · rename_i pl l ph h b1 b2
        split at hq
        · rename_i p' v' b4
          simp only [Option.some.injEq, Prod.mk.injEq] at hq; obtain ⟨rfl, rfl⟩ := hq
          exact key b1 b2 (.inl ⟨rfl, rfl⟩) b4 hp.1.1 hp.1.2.1 hp.1.2.2 hp.2
        · cases hq
      · rename_i pl l ph h m b1 b2
        split at hq
        · rename_i pm qm b3
          split at hq
          · rename_i p' v' b4
            simp only [Option.some.injEq, Prod.mk.injEq] at hq; obtain ⟨rfl, rfl⟩ := hq
            obtain ⟨k, e⟩ := bnd_sound hs (f4 m rfl) b3 hp.1.2.2.2
            exact key b1 b2 (.inr ⟨k, qm, by simp [e], rfl⟩) b4 hp.1.1 hp.1.2.1 hp.1.2.2.1 hp.2
          · cases hq
        · cases hq
      · cases hq
    · cases hq
  · -- makeFunc
    rename_i f first captured
    split at hq
    · rename_i h0
      subst h0
      split at hq
      · rename_i p' l hl
        simp only [Option.some.injEq, Prod.mk.injEq] at hq; obtain ⟨rfl, rfl⟩ := hq
        obtain ⟨h1, h2⟩ := caps_sound hs (by simpa [opFit, Op.operands] using hf) hl hp
        refine ⟨.func (.func f) #[] (captured.map a.eval), by simp [execOp, Instr.makeFunc], captured.map a.eval, rfl, by simpa using h1, fun j q hj => ?_⟩
        obtain ⟨L, e1, e2⟩ := h2 j q hj
        exact ⟨L, e1, by simpa using e2⟩
      · cases hq
    · cases hq
  · -- len
    rename_i args argTypes
    split at hq
    · rename_i x t hx ht'
      have hargs : args = #[x] := by cases args; simp_all
      have hats : argTypes = #[t] := by cases argTypes; simp_all
      subst hargs hats
      have f1 : Operand.fit N x = true := by simpa [opFit, Op.operands, Call.operands] using hf
      have hex : ∀ u, (Builtin.len_ #[t] ty #[a.eval x]).run P w = .ok u w → (execOp a.eval ⟨dst, .call ⟨.builtin .len, #[x], #[t]⟩, ty, pos, after, guard⟩).run P w = .ok (.value u) w := fun u h => by
        simp [execOp, resolve, invoke, builtin, h]
      split at hq
      · rename_i i hi
        split at hq
        · rename_i n e hk
          simp only [Option.some.injEq, Prod.mk.injEq] at hq; obtain ⟨rfl, rfl⟩ := hq
          refine ⟨.int .i64 n, hex _ ?_, rfl⟩
          simp [Builtin.len_, run_underlying ((ht t i hi).arr hk), goInt]
        · split at hq
          · rename_i n hl
            simp only [Option.some.injEq, Prod.mk.injEq] at hq; obtain ⟨rfl, rfl⟩ := hq
            have hv := A f1 hp
            refine ⟨.int .i64 n, hex _ ?_, rfl⟩
            unfold lenC at hl
            split at hl
            · rename_i s hx'
              rw [hx'] at hv
              have hv : a.eval x = .string s := hv
              split at hl
              · rename_i hk; cases hl; simp [Builtin.len_, run_underlying ((ht t i hi).str hk), goInt, hv]
              · cases hl
            · rename_i id off es n' cap hx'
              rw [hx'] at hv
              obtain ⟨L, ad, c, e1, e2, _⟩ := hv
              split at hl
              · rename_i e hk; cases hl; simp [Builtin.len_, run_underlying ((ht t i hi).slice hk), goInt, e2]
              · cases hl
            · rename_i hx'
              rw [hx'] at hv
              obtain ⟨ad, e2⟩ := hv
              split at hl
              · rename_i e hk; cases hl; simp [Builtin.len_, run_underlying ((ht t i hi).slice hk), goInt, e2]
              · cases hl
            · rename_i hx'
              rw [hx'] at hv
              have hv : a.eval x = .slice none 0 0 := hv
              split at hl
              · rename_i e hk; cases hl; simp [Builtin.len_, run_underlying ((ht t i hi).slice hk), goInt, hv]
              · cases hl
            · cases hl
          · cases hq
      · cases hq
    · cases hq
  · -- cap
    rename_i args argTypes
    split at hq
    · rename_i x t hx ht'
      have hargs : args = #[x] := by cases args; simp_all
      have hats : argTypes = #[t] := by cases argTypes; simp_all
      subst hargs hats
      have f1 : Operand.fit N x = true := by simpa [opFit, Op.operands, Call.operands] using hf
      have hex : ∀ u, (Builtin.cap_ #[t] ty #[a.eval x]).run P w = .ok u w → (execOp a.eval ⟨dst, .call ⟨.builtin .cap, #[x], #[t]⟩, ty, pos, after, guard⟩).run P w = .ok (.value u) w := fun u h => by
        simp [execOp, resolve, invoke, builtin, h]
      split at hq
      · rename_i i hi hx'
        split at hq
        · rename_i e hk
          simp only [Option.some.injEq, Prod.mk.injEq] at hq; obtain ⟨rfl, rfl⟩ := hq
          have hv := A f1 hp
          rw [hx'] at hv
          have hv : a.eval x = .slice none 0 0 := hv
          refine ⟨.int .i64 0, hex _ ?_, rfl⟩
          simp [Builtin.cap_, run_underlying ((ht t i hi).slice hk), goInt, hv]
        · cases hq
      · rename_i i hi hx'
        split at hq
        · rename_i e hk
          simp only [Option.some.injEq, Prod.mk.injEq] at hq; obtain ⟨rfl, rfl⟩ := hq
          have hv := A f1 hp
          rw [hx'] at hv
          obtain ⟨ad, hv⟩ := hv
          refine ⟨.int .i64 0, hex _ ?_, rfl⟩
          simp [Builtin.cap_, run_underlying ((ht t i hi).slice hk), goInt, hv]
        · cases hq
      · cases hq
    · cases hq
  · -- max
    rename_i args argTypes
    split at hq
    · rename_i p' k n l hl
      simp only [Option.some.injEq, Prod.mk.injEq] at hq; obtain ⟨rfl, rfl⟩ := hq
      have hm := ints_sound hs (by simpa [opFit, Op.operands, Call.operands] using hf) hl hp
      refine ⟨.int k (l.foldl (fun (a : Int) (b : IntKind × Int) => if a < b.2 then b.2 else a) n), ?_, rfl⟩
      have e := max_fold (P := P) (w := w) l k n
      simp [execOp, resolve, invoke, builtin, Builtin.max_, hm, e]
    · cases hq
  · -- min
    rename_i args argTypes
    split at hq
    · rename_i p' k n l hl
      simp only [Option.some.injEq, Prod.mk.injEq] at hq; obtain ⟨rfl, rfl⟩ := hq
      have hm := ints_sound hs (by simpa [opFit, Op.operands, Call.operands] using hf) hl hp
      refine ⟨.int k (l.foldl (fun (a : Int) (b : IntKind × Int) => if b.2 < a then b.2 else a) n), ?_, rfl⟩
      have e := min_fold (P := P) (w := w) l k n
      simp [execOp, resolve, invoke, builtin, Builtin.min_, hm, e]
    · cases hq
  · cases hq
end
end Go.Proofs.Ytjjhogleiolngaa
