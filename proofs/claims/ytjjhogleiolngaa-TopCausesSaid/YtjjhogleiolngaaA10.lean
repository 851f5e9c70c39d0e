/- The abstract machine: regions in the order of the text are sound; contracts from codes. No program stands here. -/
import Derived.Test.YtjjhogleiolngaaA9
namespace Go.Proofs.Ytjjhogleiolngaa
open Go.RowKit

section
variable {P : Program} {tab : TypeId → Option TI} {N : Nat} {H0 : List Blk} {T : Nat → AV} {H : List Blk} {ρ0 : Map} {w0 : World} {ρ : Map} {a : Act} {w : World}

theorem call_enter {o : Oper} {f : FuncId} {g : Operand} {args : Array Operand} {ats : Array TypeId} {caps : Array Value} (hop : o.op = .call { callee := .value g, args, argTypes := ats }) (hg : a.eval g = .func (.func f) #[] caps)
    {fn : Func} {c : Code} (hf : P.funcs[f]? = some fn) (hname : (fn.name == "runtime.NumGoroutine") = false) (hb : fn.body = some c) : (execOp a.eval o).run P w = .ok (.enter f (args.map a.eval ++ caps)) w := by
  have h1 : ¬ fn.name = "runtime.NumGoroutine" := by simpa using hname
  unfold execOp
  simp [hop, resolve, Deferred.ofValue, invoke, callFunc, hf, h1, hb, hg]

/-- A call, at the operation. -/
theorem call_wp {o : Oper} {f : FuncId} {g : Operand} {args : Array Operand} {ats : Array TypeId} {caps : Array Value} {xs : List AC} (hop : o.op = .call { callee := .value g, args, argTypes := ats }) (hg : a.eval g = .func (.func f) #[] caps)
    (hr : Rel ρ H w) (hx : relArgs ρ xs (args.map a.eval ++ caps)) {K : AV → List Blk → Prop} (h : ACalls P f xs H K) {next : Act → World → Prop} {Q : Exit → Act → World → Prop}
    (hk : ∀ ρ' v u H' w', relV ρ' v u → Rel ρ' H' w' → H.length ≤ H'.length → Stp H.length ρ H w ρ' H' w' → K v H' → next (a.put o.dst u) w') : o.wp P a w next Q := by
  obtain ⟨⟨fn, c, hf, hn, hb⟩, hc⟩ := h
  unfold Oper.wp
  rw [call_enter hop hg hf hn hb, Oper.upon_enter]
  refine (hc ρ w _ hx hr).mono ?_
  rintro e w' ⟨v, ρ', H', u, rfl, q1, q2, q3, q4, q5⟩
  exact hk ρ' v u H' w' q1 q2 q3 q4 q5

theorem caps_rel {f : FuncId} {cs : List (Nat × Nat)} {v : Value} (h : relC ρ (.sc (.fn f cs)) v) : ∃ vs, v = .func (.func f) #[] vs ∧ relArgs ρ (capsC cs) vs := by
  obtain ⟨vs, rfl, h1, h2⟩ := h
  refine ⟨vs, rfl, by simp [capsC, h1], fun j x hj => ?_⟩
  simp only [capsC, List.getElem?_map, Option.map_eq_some_iff] at hj
  obtain ⟨p, hp, rfl⟩ := hj
  obtain ⟨L, e1, e2⟩ := h2 j p hp
  exact ⟨_, e2, L, e1, rfl⟩

theorem fit_call {c : Callee} {g : Operand} {args : Array Operand} {ats : Array TypeId} (hc : c = .value g) (hf : opFit N (.call ⟨c, args, ats⟩) = true) : Operand.fit N g = true ∧ args.toList.all (Operand.fit N) = true := by
  subst hc
  simpa [opFit, Op.operands, Call.operands] using hf

theorem args_append {args : Array Operand} {xs ys : List AC} {caps : Array Value} (h : relArgs ρ xs (args.toList.map a.eval).toArray) (k : relArgs ρ ys caps) : relArgs ρ (xs ++ ys) (args.map a.eval ++ caps) := by
  have e : (args.toList.map a.eval).toArray = args.map a.eval := by apply Array.ext'; simp
  rw [e] at h
  exact relArgs_append h k

/-- The rest of 'stepA': an operation that is no move and no call of a function. -/
def stepQ (tab : TypeId → Option TI) (T : Nat → AV) (H : List Blk) (op : Op) (K : AV → List Blk → Prop) : Prop :=
  match opQ tab T H op with
  | some (p, v) => p ∧ K (.c v) H
  | none => match opM tab T H op with
    | some (p, v, H') => p ∧ K (.c v) H'
    | none => False
theorem stepQ_wp (ht : TabOk P tab) (hs : Sim ρ0 H0 w0 N ρ T H a w) {o : Oper} (hf : opFit N o.op = true) (hd : ∀ i, o.dst = some i → i < N) {K : AV → List Blk → Prop} (h : stepQ tab T H o.op K) {next : Act → World → Prop} {Q : Exit → Act → World → Prop}
    (hk : ∀ ρ' v H' a' w', Sim ρ0 H0 w0 N ρ' (putD T o.dst v) H' a' w' → K v H' → next a' w') : o.wp P a w next Q := by
  unfold stepQ at h
  split at h
  · rename_i p v hq
    obtain ⟨u, hu, hr⟩ := opQ_sound ht hs.slots hs.rel hf hq h.1
    unfold Oper.wp
    rw [hu]
    exact hk ρ (.c v) H _ w (sim_put hs hd hr) h.2
  · split at h
    · rename_i p v H' hq
      obtain ⟨r, w', ρ', hu, ⟨u, hru, hv⟩, h1, h2⟩ := opM_sound ht hs.slots hs.rel hf hq h.1
      have hsim := sim_put' (d := o.dst) (v := .c v) (u := u) hs h1 (opM_len hq) h2 hd hv
      unfold Oper.wp
      rw [hu]
      rcases hru with rfl | ⟨rfl, rfl⟩
      · exact hk ρ' (.c v) H' _ w' hsim h.2
      · exact hk ρ' (.c v) H' _ w' hsim h.2
    · exact h.elim

theorem stepA_wp (ht : TabOk P tab) (hs : Sim ρ0 H0 w0 N ρ T H a w) {o : Oper} (hf : opFit N o.op = true) (hd : ∀ i, o.dst = some i → i < N) {K : AV → List Blk → Prop} (h : stepA P tab T H o.op K) {next : Act → World → Prop} {Q : Exit → Act → World → Prop}
    (hk : ∀ ρ' v H' a' w', Sim ρ0 H0 w0 N ρ' (putD T o.dst v) H' a' w' → K v H' → next a' w') : o.wp P a w next Q := by
  unfold stepA at h
  split at h
  · rename_i x hop
    have hfx : Operand.fit N x = true := fit1 hf (by rw [hop]; rfl)
    unfold Oper.wp execOp
    rw [hop]
    exact hk ρ _ H _ w (sim_put hs hd (ev_rel hs.slots hfx)) h
  · rename_i x hop
    have hfx : Operand.fit N x = true := fit1 hf (by rw [hop]; rfl)
    unfold Oper.wp execOp
    rw [hop]
    exact hk ρ _ H _ w (sim_put hs hd (ev_rel hs.slots hfx)) h
  · rename_i f args ats hop
    rw [hop] at hf
    have ha := args_sound hs.slots (fit_call rfl hf).2 h.1
    have hx : relArgs ρ (argsC T args.toList).2 (args.map a.eval ++ #[]) := by
      have := args_append (ys := []) (caps := #[]) ha ⟨rfl, fun j x h => by simp at h⟩
      simpa using this
    exact call_wp (g := .func f) hop rfl hs.rel hx h.2 fun ρ' v u H' w' q1 q2 q3 q4 q5 => hk ρ' v H' _ w' (sim_put' hs q2 q3 q4 hd q1) q5
  · rename_i g args ats hne hop
    split at h
    · rename_i f cs hg
      rw [hop] at hf
      obtain ⟨f1, f2⟩ := fit_call rfl hf
      obtain ⟨g1, g2, g3⟩ := h
      have hv := ac_rel hs.slots f1 g1
      rw [hg] at hv
      obtain ⟨vs, e1, e2⟩ := caps_rel hv
      have ha := args_sound hs.slots f2 g2
      exact call_wp hop e1 hs.rel (args_append ha e2) g3 fun ρ' v u H' w' q1 q2 q3 q4 q5 => hk ρ' v H' _ w' (sim_put' hs q2 q3 q4 hd q1) q5
    · exact h.elim
  · exact stepQ_wp ht hs hf hd h hk

theorem stepG_wp (ht : TabOk P tab) (hs : Sim ρ0 H0 w0 N ρ T H a w) {o : Oper} (hf : opFit N o.op = true) (hd : ∀ i, o.dst = some i → i < N) {g : Bool} {K : AV → Prop} (h : stepG P tab T H o.op g K) {next : Act → World → Prop} {Q : Exit → Act → World → Prop}
    (hk : ∀ ρ' v a' w', Sim ρ0 H0 w0 N ρ' (putD T o.dst v) H a' w' → K v → next a' w') : (g = true → o.wp P a w next Q) ∧ (g = false → next (a.put o.dst undef) w) := by
  have skip : ∀ {v : AC}, K (.grd g v) → g = false → next (a.put o.dst undef) w := fun {v} q e => by
    subst e
    exact hk ρ _ _ w (sim_put (v := .grd false v) hs hd ⟨fun e => Bool.noConfusion e, fun _ => rfl⟩) q
  unfold stepG at h
  split at h
  · rename_i f args ats hop
    obtain ⟨v, h1, h2⟩ := h
    refine ⟨fun e => ?_, skip h2⟩
    subst e
    obtain ⟨g1, g2⟩ := h1 rfl
    rw [hop] at hf
    have ha := args_sound hs.slots (fit_call rfl hf).2 g1
    have hx : relArgs ρ (argsC T args.toList).2 (args.map a.eval ++ #[]) := by
      have := args_append (ys := []) (caps := #[]) ha ⟨rfl, fun j x h => by simp at h⟩
      simpa using this
    refine call_wp (g := .func f) hop rfl hs.rel hx g2 ?_
    rintro ρ' v' u H' w' q1 q2 q3 q4 ⟨rfl, rfl⟩
    exact hk ρ' _ _ w' (sim_put' hs q2 q3 q4 hd (v := .grd true v) ⟨fun _ => q1, fun e => Bool.noConfusion e⟩) h2
  · rename_i g' args ats hne hop
    split at h
    · rename_i f cs hg
      obtain ⟨v, h1, h2⟩ := h
      refine ⟨fun e => ?_, skip h2⟩
      subst e
      obtain ⟨g1, g2, g3⟩ := h1 rfl
      rw [hop] at hf
      obtain ⟨f1, f2⟩ := fit_call rfl hf
      have hv := ac_rel hs.slots f1 g1
      rw [hg] at hv
      obtain ⟨vs, e1, e2⟩ := caps_rel hv
      have ha := args_sound hs.slots f2 g2
      refine call_wp hop e1 hs.rel (args_append ha e2) g3 ?_
      rintro ρ' v' u H' w' q1 q2 q3 q4 ⟨rfl, rfl⟩
      exact hk ρ' _ _ w' (sim_put' hs q2 q3 q4 hd (v := .grd true v) ⟨fun _ => q1, fun e => Bool.noConfusion e⟩) h2
    · exact h.elim
  · split at h
    · rename_i p v hq
      refine ⟨fun e => ?_, skip h.2⟩
      subst e
      obtain ⟨u, hu, hr⟩ := opQ_sound ht hs.slots hs.rel hf hq (h.1 rfl)
      unfold Oper.wp
      rw [hu]
      exact hk ρ (.grd true v) _ w (sim_put hs hd ⟨fun _ => hr, fun e => Bool.noConfusion e⟩) h.2
    · exact ⟨fun e => (by rw [h.1] at e; cases e), skip h.2⟩

/-- Does an operation behind a guard run? What a skipped one leaves is no truth value. -/
theorem wanted_v {ops : Array Oper} {j s : Nat} {o oj : Oper} {t want : Bool} {tmps : Array Value} (hj : o.guard = some (j, want)) (ho : ops[j]? = some oj) (hd : oj.dst = some s) (hN : s < tmps.size) (hs : relV ρ (T s) (tmps.getD s undef))
    (hv : (T s).ac = .sc (.bool t)) : Region.wanted o (yielded ops tmps) = ((T s).gd && (t == want)) := by
  have hget : tmps.getD s undef = tmps[s] := by rw [Array.getD_eq_getD_getElem?, Array.getElem?_eq_getElem hN]; rfl
  cases hg : (T s).gd with
  | true =>
    have h := relC_of_V hs hg
    rw [hv] at h
    have h : tmps.getD s undef = .bool t := h
    rw [hget] at h
    have hy : yielded ops tmps j = some t := by simp [yielded, ho, hd, Array.getElem?_eq_getElem hN, h]
    simp only [Region.wanted, hj, hy, Bool.true_and]; rfl
  | false =>
    have hu : tmps.getD s undef = undef := by
      cases hT : T s with
      | c x => rw [hT] at hg; cases hg
      | tup x => rw [hT] at hg; cases hg
      | grd t x => rw [hT] at hs hg; exact hs.2 hg
    rw [hget] at hu
    have hy : yielded ops tmps j = none := by simp [yielded, ho, hd, Array.getElem?_eq_getElem hN, hu, undef]
    simp only [Region.wanted, hj, hy, Bool.false_and]; rfl
theorem wanted_is {ops : Array Oper} {j s : Nat} {o oj : Oper} {t want : Bool} (hj : o.guard = some (j, want)) (ho : ops[j]? = some oj) (hd : oj.dst = some s) (hs : Slots ρ N T a) (hN : s < N) (hv : (T s).ac = .sc (.bool t)) :
    Region.wanted o (yielded ops a.tmps) = ((T s).gd && (t == want)) := wanted_v hj ho hd (by rw [hs.1]; exact hN) (hs.2 s hN) hv

theorem opsA_wp (ht : TabOk P tab) {ops : Array Oper} (hops : fitOps N ops.toList = true) {R : Exit → Act → World → Prop} {K : (Nat → AV) → List Blk → Prop}
    (hk : ∀ ρ T H a w, Sim ρ0 H0 w0 N ρ T H a w → K T H → R .normal a w) :
    ∀ (l : List Oper), fitOps N l = true → ∀ (T : Nat → AV) (H : List Blk) (ρ : Map) (a : Act) (w : World), Sim ρ0 H0 w0 N ρ T H a w → opsA P tab (ops.toList.map (·.dst)) l K T H → wpList P ops R l a w
  | [], _, T, H, ρ, a, w, hs, h => hk ρ T H a w hs h
  | o :: rest, hfit, T, H, ρ, a, w, hs, h => by
    simp only [fitOps, List.all_cons, Bool.and_eq_true] at hfit
    obtain ⟨⟨f1, f2⟩, f3⟩ := hfit
    have hd : ∀ i, o.dst = some i → i < N := fun i e => by rw [e] at f2; simpa using f2
    unfold opsA at h
    unfold wpList
    split at h
    · rename_i hg
      rw [if_pos (by simp [Region.wanted, hg])]
      exact .inl (stepA_wp ht hs f1 hd h fun ρ' v H' a' w' q1 q2 => opsA_wp ht hops hk rest f3 _ _ ρ' a' w' q1 q2)
    · rename_i j want hg
      split at h
      · rename_i s hj
        split at h
        · rename_i t hv
          simp only [List.getElem?_map, Option.map_eq_some_iff, Array.getElem?_toList] at hj
          obtain ⟨oj, hoj, hdj⟩ := hj
          have hsN : s < N := by
            have := List.all_eq_true.1 hops oj (by rw [← Array.getElem?_toList] at hoj; exact List.mem_of_getElem? hoj)
            rw [hdj] at this
            simp only [Bool.and_eq_true, decide_eq_true_eq] at this
            exact this.2
          obtain ⟨q1, q2⟩ := stepG_wp ht hs f1 hd h (next := wpList P ops R rest) (Q := R) fun ρ' v a' w' q1 q2 => opsA_wp ht hops hk rest f3 _ _ ρ' a' w' q1 q2
          rw [wanted_is hg hoj hdj hs.slots hsN hv]
          cases e : ((T s).gd && (t == want)) with
          | true => rw [if_pos rfl]; exact .inl (q1 e)
          | false => rw [if_neg (by simp)]; exact q2 e
        · exact h.elim
      · exact h.elim

theorem awp_region (ht : TabOk P tab) {id : Nat} {ops : Array Oper} {Q : Exit → (Nat → AV) → List Blk → Prop} (h : opsA P tab (ops.toList.map (·.dst)) ops.toList (fun T H => Q .normal T H) T H) : AWP P N H0 (.region id ops false) Q T H := by
  intro hf ρ0 w0 hr ρ a w hs
  refine wp_region_list ?_
  exact opsA_wp (ρ0 := ρ0) (w0 := w0) (H0 := H0) ht hf (fun ρ T H a w hs q => ⟨ρ, T, H, hs, q⟩) _ hf T H ρ a w hs h

/-! ### What a function returns -/
def resC (tab : TypeId → Option TI) (T : Nat → AV) (H : List Blk) : ResultVar → Option (Prop × AC)
  | .tmp t => some ((T t).gd = true, (T t).ac)
  | .cell t ty => match tab ty, (T t).ac with
    | some i, .sc (.ptr id off) => match Blk.cells? H[id]? with
      | some cs => match ldC i cs off with
        | some (p, v) => some ((T t).gd = true ∧ p, v)
        | none => none
      | none => none
    | _, _ => none
def ressC (tab : TypeId → Option TI) (T : Nat → AV) (H : List Blk) : List ResultVar → Option (Prop × List AC)
  | [] => some (True, [])
  | r :: rs => match resC tab T H r, ressC tab T H rs with
    | some (p, v), some (q, vs) => some (p ∧ q, v :: vs)
    | _, _ => none
def tupC : List AC → AV
  | [x] => .c x
  | xs => .tup xs
def resFit (N : Nat) (rs : List ResultVar) : Bool := rs.all fun | .tmp t => decide (t < N) | .cell t _ => decide (t < N)

theorem ressC_sound (ht : TabOk P tab) (hs : Slots ρ N T a) (hr : Rel ρ H w) {F : ResultVar → Sem Value} (F1 : ∀ t, F (.tmp t) = pure (a.tmps.getD t undef)) (F2 : ∀ x t, F (.cell x t) = (do loadVar t (← asAddr (a.tmps.getD x undef)))) : ∀ (rs : List ResultVar), resFit N rs = true → ∀ (p : Prop) (vs : List AC), ressC tab T H rs = some (p, vs) → p →
    ∃ us : List Value, (rs.mapM F).run P w = .ok us w ∧ relArgs ρ vs us.toArray
  | [], _, p, vs, h, _ => by
    simp only [ressC, Option.some.injEq, Prod.mk.injEq] at h; obtain ⟨_, rfl⟩ := h
    exact ⟨[], rfl, rfl, fun j x h => by simp at h⟩
  | r :: rs, hf, p, vs, h, hp => by
    simp only [resFit, List.all_cons, Bool.and_eq_true] at hf
    simp only [ressC] at h
    split at h
    · rename_i p1 v p2 vs' h1 h2
      simp only [Option.some.injEq, Prod.mk.injEq] at h; obtain ⟨rfl, rfl⟩ := h
      obtain ⟨us, hu, hru⟩ := ressC_sound ht hs hr F1 F2 rs hf.2 p2 vs' h2 hp.2
      have one : ∃ u, (F r).run P w = .ok u w ∧ relC ρ v u := by
        cases r with
        | tmp t =>
          simp only [resC, Option.some.injEq, Prod.mk.injEq] at h1; obtain ⟨rfl, rfl⟩ := h1
          exact ⟨_, by rw [F1]; rfl, relC_of_V (hs.2 t (by simpa using hf.1)) hp.1⟩
        | cell x t =>
          simp only [resC] at h1
          split at h1
          · rename_i i id off hi hx
            split at h1
            · rename_i cs hcs
              split at h1
              · rename_i p' v' hl
                simp only [Option.some.injEq, Prod.mk.injEq] at h1; obtain ⟨rfl, rfl⟩ := h1
                have hv := relC_of_V (hs.2 x (by simpa using hf.1)) hp.1.1
                rw [hx] at hv
                obtain ⟨L, e1, e2⟩ := relS_ptr hv
                obtain ⟨c, et, fr, c1, c2⟩ := hr.cells e1 hcs
                obtain ⟨u, hu', hru'⟩ := load_sound (P := P) (w := w) (ht t i hi) hl hp.1.2 c1 c2
                refine ⟨u, ?_, hru'⟩
                simp only [Instr.loadAt, Instr.sureAddr, Sem.run_bind, Sem.run_pure, Result.andThen_ok] at hu'
                rw [F2]
                simp only [e2, asAddr, Sem.run_bind, Sem.run_pure, Result.andThen_ok]
                exact hu'
              · cases h1
            · cases h1
          · cases h1
      obtain ⟨u, hu', hv⟩ := one
      refine ⟨u :: us, ?_, ?_⟩
      · simp only [List.mapM_cons, Sem.run_bind, Sem.run_pure]
        rw [hu']
        simp only [Result.andThen_ok, hu]
      · refine ⟨by have := hru.1; simp at this; simp [this], fun j x hj => ?_⟩
        cases j with
        | zero => simp at hj; subst hj; exact ⟨u, by simp, hv⟩
        | succ j =>
          simp only [List.getElem?_cons_succ] at hj
          obtain ⟨q, hq, rq⟩ := hru.2 j x hj
          exact ⟨q, by simpa using hq, rq⟩
    · cases h
end
end Go.Proofs.Ytjjhogleiolngaa
