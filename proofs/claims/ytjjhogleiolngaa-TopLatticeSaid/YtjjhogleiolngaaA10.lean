/- The abstract machine: regions in the order of the text are sound; contracts from codes. No program stands here. -/
import Derived.Test.YtjjhogleiolngaaA9
namespace Go.Proofs.Ytjjhogleiolngaa
open Go.RowKit

section
variable {P : Program} {tab : TypeId → Option TI} {N : Nat} {H0 : List Blk} {T : Nat → AV} {H : List Blk} {ρ0 : Map} {w0 : World} {ρ : Map} {a : Act} {w : World}

theorem call_enter {o : Oper} {f : FuncId} {g : Operand} {args : Array Operand} {ats : Array TypeId} {caps : Array Value} (hop : o.op = .call { callee := .value g, args, argTypes := ats }) (hg : a.eval g = .func (.func f) #[] caps)
    {fn : Func} {c : Code} (hf : P.funcs[f]? = some fn) (hname : (fn.name == "runtime.NumGoroutine") = false) (hb : fn.body = some c) : (execOp a.eval o).run P w = .ok (.enter f (args.map a.eval ++ caps)) w := by
  have h1 : ¬ fn.name = "runtime.NumGoroutine" := by simpa using hname
  unfold execOp
  simp [hop, resolve, Deferred.ofValue, invoke, callFunc, hf, h1, hb, hg]

/-- A call, at the operation. -/
theorem call_wp {o : Oper} {f : FuncId} {g : Operand} {args : Array Operand} {ats : Array TypeId} {caps : Array Value} {xs : List AC} (hop : o.op = .call { callee := .value g, args, argTypes := ats }) (hg : a.eval g = .func (.func f) #[] caps)
    (hr : Rel ρ H w) (hx : relArgs ρ xs (args.map a.eval ++ caps)) {K : AV → List Blk → Prop} (h : ACalls P f xs H K) {next : Act → World → Prop} {Q : Exit → Act → World → Prop}
    (hk : ∀ ρ' v u H' w', relV ρ' v u → Rel ρ' H' w' → H.length ≤ H'.length → Stp H.length ρ H w ρ' H' w' → K v H' → next (a.put o.dst u) w') : o.wp P a w next Q := by
  obtain ⟨⟨fn, c, hf, hn, hb⟩, hc⟩ := h
  unfold Oper.wp
  rw [call_enter hop hg hf hn hb, Oper.upon_enter]
  refine (hc ρ w _ hx hr).mono ?_
  rintro e w' ⟨v, ρ', H', u, rfl, q1, q2, q3, q4, q5⟩
  exact hk ρ' v u H' w' q1 q2 q3 q4 q5

theorem caps_rel {f : FuncId} {cs : List (Nat × Nat)} {v : Value} (h : relC ρ (.sc (.fn f cs)) v) : ∃ vs, v = .func (.func f) #[] vs ∧ relArgs ρ (capsC cs) vs := by
  obtain ⟨vs, rfl, h1, h2⟩ := h
  refine ⟨vs, rfl, by simp [capsC, h1], fun j x hj => ?_⟩
  simp only [capsC, List.getElem?_map, Option.map_eq_some_iff] at hj
  obtain ⟨p, hp, rfl⟩ := hj
  obtain ⟨L, e1, e2⟩ := h2 j p hp
  exact ⟨_, e2, L, e1, rfl⟩

theorem fit_call {c : Callee} {g : Operand} {args : Array Operand} {ats : Array TypeId} (hc : c = .value g) (hf : opFit N (.call ⟨c, args, ats⟩) = true) : Operand.fit N g = true ∧ args.toList.all (Operand.fit N) = true := by
  subst hc
  simpa [opFit, Op.operands, Call.operands] using hf

theorem args_append {args : Array Operand} {xs ys : List AC} {caps : Array Value} (h : relArgs ρ xs (args.toList.map a.eval).toArray) (k : relArgs ρ ys caps) : relArgs ρ (xs ++ ys) (args.map a.eval ++ caps) := by
  have e : (args.toList.map a.eval).toArray = args.map a.eval := by apply Array.ext'; simp
  rw [e] at h
  exact relArgs_append h k

/-- The rest of 'stepA': an operation that is no move and no call of a function. -/
def stepQ (tab : TypeId → Option TI) (T : Nat → AV) (H : List Blk) (op : Op) (K : AV → List Blk → Prop) : Prop :=
  match opQ tab T H op with
  | some (p, v) => p ∧ K (.c v) H
  | none => match opM tab T H op with
    | some (p, v, H') => p ∧ K (.c v) H'
    | none => False
theorem stepQ_wp (ht : TabOk P tab) (hs : Sim ρ0 H0 w0 N ρ T H a w) {o : Oper} (hf : opFit N o.op = true) (hd : ∀ i, o.dst = some i → i < N) {K : AV → List Blk → Prop} (h : stepQ tab T H o.op K) {next : Act → World → Prop} {Q : Exit → Act → World → Prop}
    (hk : ∀ ρ' v H' a' w', Sim ρ0 H0 w0 N ρ' (putD T o.dst v) H' a' w' → K v H' → next a' w') : o.wp P a w next Q := by
  unfold stepQ at h
  split at h
  · rename_i p v hq
    obtain ⟨u, hu, hr⟩ := opQ_sound ht hs.slots hs.rel hf hq h.1
    unfold Oper.wp
    rw [hu]
    exact hk ρ (.c v) H _ w (sim_put hs hd hr) h.2
  · split at h
    · rename_i p v H' hq
      obtain ⟨r, w', ρ', hu, ⟨u, hru, hv⟩, h1, h2⟩ := opM_sound ht hs.slots hs.rel hf hq h.1
      have hsim := sim_put' (d := o.dst) (v := .c v) (u := u) hs h1 (opM_len hq) h2 hd hv
      unfold Oper.wp
      rw [hu]
      rcases hru with rfl | ⟨rfl, rfl⟩
      · exact hk ρ' (.c v) H' _ w' hsim h.2
      · exact hk ρ' (.c v) H' _ w' hsim h.2
    · exact h.elim

theorem mapKK_of {t : TypeId} {kk kv : IntKind} (ht : TabOk P tab) (h : mapKK tab t = some (kk, kv)) (w : World) : ∃ k e, P.underlying t = some (.map k e) ∧ P.underlying k = some (.int kk) ∧ (zeroValue e).run P w = .ok (.int kv 0) w := by
  unfold mapKK at h
  split at h
  · rename_i i hi
    split at h
    · rename_i k e hk
      split at h
      · rename_i ik ie hik hie
        split at h
        · rename_i kk' kv' h1 h2
          simp only [Option.some.injEq, Prod.mk.injEq] at h
          obtain ⟨rfl, rfl⟩ := h
          obtain ⟨z, hz, hr⟩ := (ht e ie hie).zeroV w
          have hr := hr (fun _ => none)
          rw [h2] at hr
          have hr : z = .int kv' 0 := hr
          subst hr
          exact ⟨k, e, (ht t i hi).map hk, (ht k ik hik).int h1, hz⟩
        · cases h
      · cases h
    · cases h
  · cases h
theorem find_idx {kk kv : IntKind} (x : Int) : ∀ (es : List MapEntry) (l : List (Int × Int)) (i : Nat), (es.map fun e => (e.key, e.val)) = (l.map fun p => (Value.int kk p.1, Value.int kv p.2)) →
    Instr.findNow (.int kk) (.int kk x) es i = some ((idxM l x i).map fun q => (q.1, .int kv q.2))
  | [], [], i, _ => rfl
  | e :: es, p :: l, i, h => by
    simp only [List.map_cons, List.cons.injEq, Prod.mk.injEq] at h
    obtain ⟨⟨h1, h2⟩, h3⟩ := h
    have ih := find_idx x es l (i + 1) h3
    unfold Instr.findNow idxM
    rw [h1, h2]
    by_cases e : x = p.1
    · simp [Instr.sameNow, e]
    · have e' : (x == p.1) = false := by simpa using e
      simp [Instr.sameNow, e', e, ih]
  | [], _ :: _, _, h => by simp at h
  | _ :: _, [], _, h => by simp at h
theorem idxM_at {x : Int} : ∀ {l : List (Int × Int)} {i : Nat} {q : Nat × Int}, idxM l x i = some q → i ≤ q.1 ∧ l[q.1 - i]? = some (x, q.2)
  | [], _, _, h => by cases h
  | p :: r, i, q, h => by
    unfold idxM at h
    split at h
    · rename_i e; cases h; subst e; exact ⟨Nat.le_refl _, by simp⟩
    · obtain ⟨h1, h2⟩ := idxM_at h
      refine ⟨by omega, ?_⟩
      obtain ⟨k, hk⟩ : ∃ k, q.1 - i = k + 1 := ⟨q.1 - i - 1, by omega⟩
      rw [hk, List.getElem?_cons_succ, show k = q.1 - (i + 1) by omega]; exact h2
theorem stepA_wp (ht : TabOk P tab) (hs : Sim ρ0 H0 w0 N ρ T H a w) {o : Oper} (hf : opFit N o.op = true) (hd : ∀ i, o.dst = some i → i < N) {K : AV → List Blk → Prop} (h : stepA P tab T H o.op K) {next : Act → World → Prop} {Q : Exit → Act → World → Prop}
    (hk : ∀ ρ' v H' a' w', Sim ρ0 H0 w0 N ρ' (putD T o.dst v) H' a' w' → K v H' → next a' w') : o.wp P a w next Q := by
  unfold stepA at h
  split at h
  · rename_i x hop
    have hfx : Operand.fit N x = true := fit1 hf (by rw [hop]; rfl)
    unfold Oper.wp execOp
    rw [hop]
    exact hk ρ _ H _ w (sim_put hs hd (ev_rel hs.slots hfx)) h
  · rename_i x hop
    have hfx : Operand.fit N x = true := fit1 hf (by rw [hop]; rfl)
    unfold Oper.wp execOp
    rw [hop]
    exact hk ρ _ H _ w (sim_put hs hd (ev_rel hs.slots hfx)) h
  · rename_i f args ats hop
    rw [hop] at hf
    have ha := args_sound hs.slots (fit_call rfl hf).2 h.1
    have hx : relArgs ρ (argsC T args.toList).2 (args.map a.eval ++ #[]) := by
      have := args_append (ys := []) (caps := #[]) ha ⟨rfl, fun j x h => by simp at h⟩
      simpa using this
    exact call_wp (g := .func f) hop rfl hs.rel hx h.2 fun ρ' v u H' w' q1 q2 q3 q4 q5 => hk ρ' v H' _ w' (sim_put' hs q2 q3 q4 hd q1) q5
  · rename_i g args ats hne hop
    split at h
    · rename_i f cs hg
      rw [hop] at hf
      obtain ⟨f1, f2⟩ := fit_call rfl hf
      obtain ⟨g1, g2, g3⟩ := h
      have hv := ac_rel hs.slots f1 g1
      rw [hg] at hv
      obtain ⟨vs, e1, e2⟩ := caps_rel hv
      have ha := args_sound hs.slots f2 g2
      exact call_wp hop e1 hs.rel (args_append ha e2) g3 fun ρ' v u H' w' q1 q2 q3 q4 q5 => hk ρ' v H' _ w' (sim_put' hs q2 q3 q4 hd q1) q5
    · exact h.elim
  · rename_i t hop
    split at h
    · rename_i kk kv hm
      unfold Oper.wp execOp
      rw [hop]
      obtain ⟨h1, h2⟩ := rel_allocM hs.rel kk kv
      have hsim := sim_put' (d := o.dst) (v := .c (.sc (.mp H.length))) (u := .map (some w.heap.size)) hs h1 (by simp) h2 hd ⟨_, Map.put_same _ _ _, rfl⟩
      exact hk _ _ _ _ _ hsim h
    · exact h.elim
  · rename_i t m x hop
    have hfx : Operand.fit N m = true ∧ Operand.fit N x = true := fit2 hf (by rw [hop]; rfl)
    split at h
    · rename_i kk kv id k n hm h1 h2
      split at h
      · rename_i k1 k2 es hes
        obtain ⟨⟨g1, g2, rfl, rfl, rfl⟩, hK⟩ := h
        have v1 := ac_rel hs.slots hfx.1 g1
        have v2 := ac_rel hs.slots hfx.2 g2
        rw [h1] at v1
        rw [h2] at v2
        obtain ⟨L, e1, e2⟩ := v1
        have e3 : a.eval x = .int k1 n := v2
        obtain ⟨ents, clock, hb, hl⟩ := hs.rel.has id L _ e1 hes
        obtain ⟨kt, et, t1, t2, t3⟩ := mapKK_of ht hm w
        have hf := find_idx (kk := k1) (kv := k2) n ents.toList es 0 hl
        have hc := MapKept.run_checkKey (k := .int k1 n) (w := w) t2 (by simp [MapKept.IsKey]) ents.isEmpty 9999
        have hrun : (Instr.lookup t (.map (some L.b)) (.int k1 n) false).run P w = .ok (.int k2 (getM es n)) w := by
          unfold getM
          cases hi : idxM es n 0 with
          | none => rw [hi] at hf; simp [Instr.lookup, run_underlying t1, MapKept.run_getObj_map hb, hc, MapKept.run_findKey t2 hf, t3, Result.andThen]
          | some q => rw [hi] at hf; simp [Instr.lookup, run_underlying t1, MapKept.run_getObj_map hb, hc, MapKept.run_findKey t2 hf, Result.andThen]
        unfold Oper.wp execOp
        rw [hop]
        simp only [e2, e3]
        show Oper.upon P o a next Q ((Instr.lookup t (.map (some L.b)) (.int k1 n) false >>= fun r => pure (Next.value r)).run P w)
        rw [Sem.run_bind, hrun]
        exact hk _ (.c (.sc (.int k2 (getM es n)))) H _ w (sim_put hs hd rfl) hK
      · exact h.elim
    · exact h.elim
  · rename_i t m x y hop
    obtain ⟨f1, f2, f3⟩ : Operand.fit N m = true ∧ Operand.fit N x = true ∧ Operand.fit N y = true := by rw [hop] at hf; simpa [opFit, Op.operands] using hf
    split at h
    · rename_i kk kv id k n k' z hm h1 h2 h3
      split at h
      · rename_i k1 k2 es hes
        obtain ⟨⟨g1, g2, g3, rfl, rfl, rfl, rfl⟩, hK⟩ := h
        have v1 := ac_rel hs.slots f1 g1
        have v2 := ac_rel hs.slots f2 g2
        have v3 := ac_rel hs.slots f3 g3
        rw [h1] at v1
        rw [h2] at v2
        rw [h3] at v3
        obtain ⟨L, e1, e2⟩ := v1
        have e3 : a.eval x = .int k1 n := v2
        have e4 : a.eval y = .int k' z := v3
        obtain ⟨ents, clock, hb, hl⟩ := hs.rel.has id L _ e1 hes
        obtain ⟨kt, et, t1, t2, t3⟩ := mapKK_of ht hm w
        have hf := find_idx (kk := k1) (kv := k') n ents.toList es 0 hl
        have hc := MapKept.run_checkKey (k := .int k1 n) (w := w) t2 (by simp [MapKept.IsKey]) false 9999
        have hbl := (Array.getElem?_eq_some_iff.1 hb).1
        have hrun : ∃ ents' clock', (Instr.mapUpdate t (.map (some L.b)) (.int k1 n) (.int k' z)).run P w = .ok () { w with heap := w.heap.setIfInBounds L.b (.map ents' clock') } ∧ (ents'.toList.map fun e => (e.key, e.val)) = (putM es n z).map fun p => (Value.int k1 p.1, Value.int k' p.2) := by
          unfold putM
          cases hi : idxM es n 0 with
          | none =>
            rw [hi] at hf
            refine ⟨_, _, by simp [Instr.mapUpdate, run_underlying t1, MapKept.run_getObj_map hb, hc, MapKept.run_findKey t2 hf, MapKept.run_setObj_map _ hb, Result.andThen]; rfl, ?_⟩
            simp [hl]
          | some q =>
            rw [hi] at hf
            obtain ⟨_, hq⟩ := idxM_at hi
            rw [Nat.sub_zero] at hq
            have hat := congrArg (fun l => l[q.1]?) hl
            simp only [List.getElem?_map, hq, Option.map_some] at hat
            obtain ⟨e0, he0, he1⟩ := Option.map_eq_some_iff.1 hat
            have he0' : ents[q.1]? = some e0 := by rw [← Array.getElem?_toList]; exact he0
            have hkey : e0.key = .int k1 n := congrArg Prod.fst he1
            have hst : (Instr.keyThatStays (.int k1 n) (.int k1 n)).run P w = .ok (.int k1 n) w := by simp [Instr.keyThatStays, Instr.sameBits]
            refine ⟨_, _, by simp [Instr.mapUpdate, run_underlying t1, MapKept.run_getObj_map hb, hc, MapKept.run_findKey t2 hf, he0', hkey, hst, MapKept.run_setObj_map _ hb, Result.andThen]; rfl, ?_⟩
            apply List.ext_getElem?
            intro j
            have hj := congrArg (fun l => l[j]?) hl
            simp only [List.getElem?_map] at hj
            rw [List.getElem?_map, List.getElem?_map, Array.toList_modify, List.getElem?_modify, List.getElem?_set]
            by_cases e : q.1 = j
            · subst e
              have hlt := (List.getElem?_eq_some_iff.1 hq).1
              simp [he0, hlt]
            · simp only [e, if_false]; simpa using hj
        obtain ⟨ents', clock', hrun, hl'⟩ := hrun
        obtain ⟨q1, q2⟩ := rel_setB (w' := { w with heap := w.heap.setIfInBounds L.b (.map ents' clock') }) hs.rel e1 hes trivial (.mapB k1 k' (putM es n z)) ⟨ents', clock', by simp [hbl], hl'⟩ ⟨rfl, rfl, rfl, by simp⟩ (fun b hb => by simp [Ne.symm hb])
        unfold Oper.wp execOp
        rw [hop]
        simp only [e2, e3, e4]
        show Oper.upon P o a next Q ((Instr.mapUpdate t (.map (some L.b)) (.int k1 n) (.int k' z) >>= fun _ => pure Next.skip).run P w)
        rw [Sem.run_bind, hrun]
        exact hk _ (.c .top) _ _ _ (sim_put' (v := .c .top) (u := undef) hs q1 (by simp) q2 hd trivial) hK
      · exact h.elim
    · exact h.elim
  · exact stepQ_wp ht hs hf hd h hk

theorem stepG_wp (ht : TabOk P tab) (hs : Sim ρ0 H0 w0 N ρ T H a w) {o : Oper} (hf : opFit N o.op = true) (hd : ∀ i, o.dst = some i → i < N) {g : Bool} {K : AV → Prop} (h : stepG P tab T H o.op g K) {next : Act → World → Prop} {Q : Exit → Act → World → Prop}
    (hk : ∀ ρ' v a' w', Sim ρ0 H0 w0 N ρ' (putD T o.dst v) H a' w' → K v → next a' w') : (g = true → o.wp P a w next Q) ∧ (g = false → next (a.put o.dst undef) w) := by
  have skip : ∀ {v : AC}, K (.grd g v) → g = false → next (a.put o.dst undef) w := fun {v} q e => by
    subst e
    exact hk ρ _ _ w (sim_put (v := .grd false v) hs hd ⟨fun e => Bool.noConfusion e, fun _ => rfl⟩) q
  unfold stepG at h
  split at h
  · rename_i f args ats hop
    obtain ⟨v, h1, h2⟩ := h
    refine ⟨fun e => ?_, skip h2⟩
    subst e
    obtain ⟨g1, g2⟩ := h1 rfl
    rw [hop] at hf
    have ha := args_sound hs.slots (fit_call rfl hf).2 g1
    have hx : relArgs ρ (argsC T args.toList).2 (args.map a.eval ++ #[]) := by
      have := args_append (ys := []) (caps := #[]) ha ⟨rfl, fun j x h => by simp at h⟩
      simpa using this
    refine call_wp (g := .func f) hop rfl hs.rel hx g2 ?_
    rintro ρ' v' u H' w' q1 q2 q3 q4 ⟨rfl, rfl⟩
    exact hk ρ' _ _ w' (sim_put' hs q2 q3 q4 hd (v := .grd true v) ⟨fun _ => q1, fun e => Bool.noConfusion e⟩) h2
  · rename_i g' args ats hne hop
    split at h
    · rename_i f cs hg
      obtain ⟨v, h1, h2⟩ := h
      refine ⟨fun e => ?_, skip h2⟩
      subst e
      obtain ⟨g1, g2, g3⟩ := h1 rfl
      rw [hop] at hf
      obtain ⟨f1, f2⟩ := fit_call rfl hf
      have hv := ac_rel hs.slots f1 g1
      rw [hg] at hv
      obtain ⟨vs, e1, e2⟩ := caps_rel hv
      have ha := args_sound hs.slots f2 g2
      refine call_wp hop e1 hs.rel (args_append ha e2) g3 ?_
      rintro ρ' v' u H' w' q1 q2 q3 q4 ⟨rfl, rfl⟩
      exact hk ρ' _ _ w' (sim_put' hs q2 q3 q4 hd (v := .grd true v) ⟨fun _ => q1, fun e => Bool.noConfusion e⟩) h2
    · exact h.elim
  · split at h
    · rename_i p v hq
      refine ⟨fun e => ?_, skip h.2⟩
      subst e
      obtain ⟨u, hu, hr⟩ := opQ_sound ht hs.slots hs.rel hf hq (h.1 rfl)
      unfold Oper.wp
      rw [hu]
      exact hk ρ (.grd true v) _ w (sim_put hs hd ⟨fun _ => hr, fun e => Bool.noConfusion e⟩) h.2
    · exact ⟨fun e => (by rw [h.1] at e; cases e), skip h.2⟩

/-- Does an operation behind a guard run? What a skipped one leaves is no truth value. -/
theorem wanted_v {ops : Array Oper} {j s : Nat} {o oj : Oper} {t want : Bool} {tmps : Array Value} (hj : o.guard = some (j, want)) (ho : ops[j]? = some oj) (hd : oj.dst = some s) (hN : s < tmps.size) (hs : relV ρ (T s) (tmps.getD s undef))
    (hv : (T s).ac = .sc (.bool t)) : Region.wanted o (yielded ops tmps) = ((T s).gd && (t == want)) := by
  have hget : tmps.getD s undef = tmps[s] := by rw [Array.getD_eq_getD_getElem?, Array.getElem?_eq_getElem hN]; rfl
  cases hg : (T s).gd with
  | true =>
    have h := relC_of_V hs hg
    rw [hv] at h
    have h : tmps.getD s undef = .bool t := h
    rw [hget] at h
    have hy : yielded ops tmps j = some t := by simp [yielded, ho, hd, Array.getElem?_eq_getElem hN, h]
    simp only [Region.wanted, hj, hy, Bool.true_and]; rfl
  | false =>
    have hu : tmps.getD s undef = undef := by
      cases hT : T s with
      | c x => rw [hT] at hg; cases hg
      | tup x => rw [hT] at hg; cases hg
      | grd t x => rw [hT] at hs hg; exact hs.2 hg
    rw [hget] at hu
    have hy : yielded ops tmps j = none := by simp [yielded, ho, hd, Array.getElem?_eq_getElem hN, hu, undef]
    simp only [Region.wanted, hj, hy, Bool.false_and]; rfl
theorem wanted_is {ops : Array Oper} {j s : Nat} {o oj : Oper} {t want : Bool} (hj : o.guard = some (j, want)) (ho : ops[j]? = some oj) (hd : oj.dst = some s) (hs : Slots ρ N T a) (hN : s < N) (hv : (T s).ac = .sc (.bool t)) :
    Region.wanted o (yielded ops a.tmps) = ((T s).gd && (t == want)) := wanted_v hj ho hd (by rw [hs.1]; exact hN) (hs.2 s hN) hv

theorem opsA_wp (ht : TabOk P tab) {ops : Array Oper} (hops : fitOps N ops.toList = true) {R : Exit → Act → World → Prop} {K : (Nat → AV) → List Blk → Prop}
    (hk : ∀ ρ T H a w, Sim ρ0 H0 w0 N ρ T H a w → K T H → R .normal a w) :
    ∀ (l : List Oper), fitOps N l = true → ∀ (T : Nat → AV) (H : List Blk) (ρ : Map) (a : Act) (w : World), Sim ρ0 H0 w0 N ρ T H a w → opsA P tab (ops.toList.map (·.dst)) l K T H → wpList P ops R l a w
  | [], _, T, H, ρ, a, w, hs, h => hk ρ T H a w hs h
  | o :: rest, hfit, T, H, ρ, a, w, hs, h => by
    simp only [fitOps, List.all_cons, Bool.and_eq_true] at hfit
    obtain ⟨⟨f1, f2⟩, f3⟩ := hfit
    have hd : ∀ i, o.dst = some i → i < N := fun i e => by rw [e] at f2; simpa using f2
    unfold opsA at h
    unfold wpList
    split at h
    · rename_i hg
      rw [if_pos (by simp [Region.wanted, hg])]
      exact .inl (stepA_wp ht hs f1 hd h fun ρ' v H' a' w' q1 q2 => opsA_wp ht hops hk rest f3 _ _ ρ' a' w' q1 q2)
    · rename_i j want hg
      split at h
      · rename_i s hj
        split at h
        · rename_i t hv
          simp only [List.getElem?_map, Option.map_eq_some_iff, Array.getElem?_toList] at hj
          obtain ⟨oj, hoj, hdj⟩ := hj
          have hsN : s < N := by
            have := List.all_eq_true.1 hops oj (by rw [← Array.getElem?_toList] at hoj; exact List.mem_of_getElem? hoj)
            rw [hdj] at this
            simp only [Bool.and_eq_true, decide_eq_true_eq] at this
            exact this.2
          obtain ⟨q1, q2⟩ := stepG_wp ht hs f1 hd h (next := wpList P ops R rest) (Q := R) fun ρ' v a' w' q1 q2 => opsA_wp ht hops hk rest f3 _ _ ρ' a' w' q1 q2
          rw [wanted_is hg hoj hdj hs.slots hsN hv]
          cases e : ((T s).gd && (t == want)) with
          | true => rw [if_pos rfl]; exact .inl (q1 e)
          | false => rw [if_neg (by simp)]; exact q2 e
        · exact h.elim
      · exact h.elim

theorem awp_region (ht : TabOk P tab) {id : Nat} {ops : Array Oper} {Q : Exit → (Nat → AV) → List Blk → Prop} (h : opsA P tab (ops.toList.map (·.dst)) ops.toList (fun T H => Q .normal T H) T H) : AWP P N H0 (.region id ops false) Q T H := by
  intro hf ρ0 w0 hr ρ a w hs
  refine wp_region_list ?_
  exact opsA_wp (ρ0 := ρ0) (w0 := w0) (H0 := H0) ht hf (fun ρ T H a w hs q => ⟨ρ, T, H, hs, q⟩) _ hf T H ρ a w hs h

/-! ### What a function returns -/
def resC (tab : TypeId → Option TI) (T : Nat → AV) (H : List Blk) : ResultVar → Option (Prop × AC)
  | .tmp t => some ((T t).gd = true, (T t).ac)
  | .cell t ty => match tab ty, (T t).ac with
    | some i, .sc (.ptr id off) => match Blk.cells? H[id]? with
      | some cs => match ldC i cs off with
        | some (p, v) => some ((T t).gd = true ∧ p, v)
        | none => none
      | none => none
    | _, _ => none
def ressC (tab : TypeId → Option TI) (T : Nat → AV) (H : List Blk) : List ResultVar → Option (Prop × List AC)
  | [] => some (True, [])
  | r :: rs => match resC tab T H r, ressC tab T H rs with
    | some (p, v), some (q, vs) => some (p ∧ q, v :: vs)
    | _, _ => none
def tupC : List AC → AV
  | [x] => .c x
  | xs => .tup xs
def resFit (N : Nat) (rs : List ResultVar) : Bool := rs.all fun | .tmp t => decide (t < N) | .cell t _ => decide (t < N)

theorem ressC_sound (ht : TabOk P tab) (hs : Slots ρ N T a) (hr : Rel ρ H w) {F : ResultVar → Sem Value} (F1 : ∀ t, F (.tmp t) = pure (a.tmps.getD t undef)) (F2 : ∀ x t, F (.cell x t) = (do loadVar t (← asAddr (a.tmps.getD x undef)))) : ∀ (rs : List ResultVar), resFit N rs = true → ∀ (p : Prop) (vs : List AC), ressC tab T H rs = some (p, vs) → p →
    ∃ us : List Value, (rs.mapM F).run P w = .ok us w ∧ relArgs ρ vs us.toArray
  | [], _, p, vs, h, _ => by
    simp only [ressC, Option.some.injEq, Prod.mk.injEq] at h; obtain ⟨_, rfl⟩ := h
    exact ⟨[], rfl, rfl, fun j x h => by simp at h⟩
  | r :: rs, hf, p, vs, h, hp => by
    simp only [resFit, List.all_cons, Bool.and_eq_true] at hf
    simp only [ressC] at h
    split at h
    · rename_i p1 v p2 vs' h1 h2
      simp only [Option.some.injEq, Prod.mk.injEq] at h; obtain ⟨rfl, rfl⟩ := h
      obtain ⟨us, hu, hru⟩ := ressC_sound ht hs hr F1 F2 rs hf.2 p2 vs' h2 hp.2
      have one : ∃ u, (F r).run P w = .ok u w ∧ relC ρ v u := by
        cases r with
        | tmp t =>
          simp only [resC, Option.some.injEq, Prod.mk.injEq] at h1; obtain ⟨rfl, rfl⟩ := h1
          exact ⟨_, by rw [F1]; rfl, relC_of_V (hs.2 t (by simpa using hf.1)) hp.1⟩
        | cell x t =>
          simp only [resC] at h1
          split at h1
          · rename_i i id off hi hx
            split at h1
            · rename_i cs hcs
              split at h1
              · rename_i p' v' hl
                simp only [Option.some.injEq, Prod.mk.injEq] at h1; obtain ⟨rfl, rfl⟩ := h1
                have hv := relC_of_V (hs.2 x (by simpa using hf.1)) hp.1.1
                rw [hx] at hv
                obtain ⟨L, e1, e2⟩ := relS_ptr hv
                obtain ⟨c, et, fr, c1, c2⟩ := hr.cells e1 hcs
                obtain ⟨u, hu', hru'⟩ := load_sound (P := P) (w := w) (ht t i hi) hl hp.1.2 c1 c2
                refine ⟨u, ?_, hru'⟩
                simp only [Instr.loadAt, Instr.sureAddr, Sem.run_bind, Sem.run_pure, Result.andThen_ok] at hu'
                rw [F2]
                simp only [e2, asAddr, Sem.run_bind, Sem.run_pure, Result.andThen_ok]
                exact hu'
              · cases h1
            · cases h1
          · cases h1
      obtain ⟨u, hu', hv⟩ := one
      refine ⟨u :: us, ?_, ?_⟩
      · simp only [List.mapM_cons, Sem.run_bind, Sem.run_pure]
        rw [hu']
        simp only [Result.andThen_ok, hu]
      · refine ⟨by have := hru.1; simp at this; simp [this], fun j x hj => ?_⟩
        cases j with
        | zero => simp at hj; subst hj; exact ⟨u, by simp, hv⟩
        | succ j =>
          simp only [List.getElem?_cons_succ] at hj
          obtain ⟨q, hq, rq⟩ := hru.2 j x hj
          exact ⟨q, by simpa using hq, rq⟩
    · cases h
end
end Go.Proofs.Ytjjhogleiolngaa
