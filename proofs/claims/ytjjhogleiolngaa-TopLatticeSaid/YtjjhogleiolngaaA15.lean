/- The abstract machine: regions whose order is drawn, third part: one operation, in a part of the heap. No program stands here. -/
import Derived.Test.YtjjhogleiolngaaA14
namespace Go.Proofs.Ytjjhogleiolngaa
open Go.RowKit

/-- What an operation looks at ('none': all) and what it writes, by the blocks' numbers. -/
structure Foot where
  rd : Option (List Nat)
  wr : List Nat

/-- What an operation does in the order of the text. -/
inductive CertU (P : Program) (tab : TypeId → Option TI) (T : Nat → AV) (H : List Blk) (op : Op) : AV → List Blk → Foot → Prop where
  | mv (x : Operand) : op = .move x ∨ op = .assign x → CertU P tab T H op (ev T x) H ⟨some [], []⟩
  | q (p : Prop) (x : AC) : opQ tab T H op = some (p, x) → p → CertU P tab T H op (.c x) H ⟨some (rdOf T op), []⟩
  | m (p : Prop) (x : AC) (H1 : List Blk) : opM tab T H op = some (p, x, H1) → p → CertU P tab T H op (.c x) H1 ⟨some (rdOf T op), wrOf T op⟩
  | call (g : Operand) (args : Array Operand) (ats : Array TypeId) (f : FuncId) (cs : List (Nat × Nat)) (G : List Blk) (v : AV) : op = .call ⟨.value g, args, ats⟩ → (ev T g).ac = .sc (.fn f cs) → (ev T g).gd = true → (argsC T args.toList).1 →
      ACalls P f ((argsC T args.toList).2 ++ capsC cs) H (fun v' H' => v' = v ∧ H' = H ++ G) → (∀ b ∈ G, b.live → b.isOwn) → CertU P tab T H op v (H ++ G) ⟨none, []⟩

def hasTmp (l : List Operand) (i : Nat) : Bool := l.any fun | .tmp t => t == i | _ => false
/-- The slots that are looked at. -/
def maskT (T : Nat → AV) (l : List Operand) : Nat → AV := fun i => if hasTmp l i then T i else .c .top
theorem mask_ev {T : Nat → AV} {l : List Operand} {x : Operand} (h : x ∈ l) : ev T x = ev (maskT T l) x := by
  cases x with
  | tmp t =>
    simp only [ev, maskT]
    rw [if_pos]
    simp only [hasTmp, List.any_eq_true]
    exact ⟨_, h, by simp⟩
  | _ => rfl
theorem mask_slots {ρ : Map} {N : Nat} {T : Nat → AV} {a : Act} {l : List Operand} (hN : a.tmps.size = N) (h : ∀ t, .tmp t ∈ l → relV ρ (T t) (a.tmps.getD t undef)) : Slots ρ N (maskT T l) a := by
  refine ⟨hN, fun i _ => ?_⟩
  simp only [maskT]
  split
  · rename_i hh
    simp only [hasTmp, List.any_eq_true] at hh
    obtain ⟨x, hx, he⟩ := hh
    split at he
    · rename_i t
      have : t = i := by simpa using he
      subst this; exact h _ hx
    · cases he
  · trivial

/-- The result of an operation, without an order: what becomes of the frame is told by the value. -/
def Does (P : Program) (a : Act) (o : Oper) (w : World) (R : Value → World → Prop) : Prop :=
  ∀ (next : Act → World → Prop) (Q : Exit → Act → World → Prop), (∀ u w', R u w' → next (a.put o.dst u) w') → o.wp P a w next Q

section
variable {P : Program} {tab : TypeId → Option TI} {N : Nat} {T : Nat → AV} {H H1 : List Blk} {ρ : Map} {a : Act} {w : World}

theorem certU_len {op : Op} {v : AV} {f : Foot} (h : CertU P tab T H op v H1 f) : H.length ≤ H1.length := by
  cases h with
  | mv => exact Nat.le_refl _
  | q => exact Nat.le_refl _
  | m p x _ hq => exact opM_len hq
  | call => simp
theorem certU_same {op : Op} {v : AV} {f : Foot} (h : CertU P tab T H op v H1 f) : ∀ i, i < H.length → i ∉ f.wr → H1[i]? = H[i]? := by
  cases h with
  | mv => exact fun _ _ _ => rfl
  | q => exact fun _ _ _ => rfl
  | m p x _ hq => exact (opM_eff hq).1
  | call => exact fun i hi _ => List.getElem?_append_left hi
theorem certU_new {op : Op} {v : AV} {f : Foot} (h : CertU P tab T H op v H1 f) : ∀ (i : Nat) (b : Blk), H.length ≤ i → H1[i]? = some b → b.live → b.isOwn := by
  cases h with
  | mv => exact fun i b hi hb _ => by rw [List.getElem?_eq_none hi] at hb; cases hb
  | q => exact fun i b hi hb _ => by rw [List.getElem?_eq_none hi] at hb; cases hb
  | m p x _ hq => exact fun i b hi hb _ => (opM_eff hq).2.1 i b hi hb
  | call g args ats f cs G v h1 h2 h3 h4 h5 h6 =>
    exact fun i b hi hb hl => by
      rw [List.getElem?_append_right hi] at hb
      exact h6 b (List.mem_of_getElem? hb) hl

theorem certU_wo {op : Op} {v : AV} {f : Foot} (h : CertU P tab T H op v H1 f) : ∀ (i : Nat) (b : Blk), i ∈ f.wr → H1[i]? = some b → b.live → b.isOwn ∨ H[i]? = some b := by
  cases h with
  | mv => exact fun _ _ h => by cases h
  | q => exact fun _ _ h => by cases h
  | m p x _ hq => exact (opM_eff hq).2.2
  | call => exact fun _ _ h => by cases h

/-- The footprint alone lives: the rest of the elder heap is dead. -/
def keepF (H : List Blk) (f : Foot) (i : Nat) : Bool :=
  match f.rd with
  | none => false
  | some l => decide (i < H.length) && !(l ++ f.wr).contains i

theorem rdC_mapped {x : AC} {u : Value} (h : relC ρ x u) : ∀ id ∈ rdC x, (ρ id).isSome = true := by
  intro id hid
  unfold rdC at hid
  split at hid
  · simp at hid; subst hid; obtain ⟨L, e, _⟩ := h; rw [e]; rfl
  · simp at hid; subst hid; obtain ⟨L, _, _, e, _⟩ := h; rw [e]; rfl
  · cases hid
/-- What is written is there. -/
theorem certU_mapped {op : Op} {v : AV} {f : Foot} (h : CertU P tab T H op v H1 f) (hv : ∀ x ∈ op.operands.toList, (ev T x).gd = true → relC ρ (ev T x).ac (a.eval x)) : ∀ id ∈ f.wr, (ρ id).isSome = true := by
  cases h with
  | mv => exact fun _ h => by cases h
  | q => exact fun _ h => by cases h
  | call => exact fun _ h => by cases h
  | m p x _ hq hp =>
    intro id hid
    simp only at hid
    cases op with
    | store t y z =>
      simp only [wrOf] at hid
      simp only [opM] at hq
      repeat' split at hq
      all_goals first
        | (cases hq; done)
        | skip
      simp only [Option.some.injEq, Prod.mk.injEq] at hq; obtain ⟨rfl, rfl, rfl⟩ := hq
      exact rdC_mapped (hv y (by simp [Op.operands]) hp.1.1) id hid
    | call c =>
      obtain ⟨cal, args, ats⟩ := c
      cases cal with
      | value f => simp [opM] at hq
      | invoke r m => simp [opM] at hq
      | builtin b =>
        have hao : ∀ x ∈ args.toList, x ∈ (Op.call ⟨.builtin b, args, ats⟩).operands.toList := fun x hx => by simpa [Op.operands, Call.operands] using hx
        cases b with
        | append =>
          simp only [wrOf] at hid
          simp only [opM] at hq
          split at hq
          · rename_i s x t tx ha1 ha2
            rw [ha1] at hid hao
            simp only at hid
            have hs : (ev T s).gd = true := by
              split at hq
              · split at hq
                · split at hq
                  · split at hq
                    · split at hq
                      · simp only [Option.some.injEq, Prod.mk.injEq] at hq; obtain ⟨rfl, rfl, rfl⟩ := hq; exact hp.1.1
                      · cases hq
                    · split at hq
                      · split at hq
                        · simp only [Option.some.injEq, Prod.mk.injEq] at hq; obtain ⟨rfl, rfl, rfl⟩ := hq; exact hp.1.1
                        · simp only [Option.some.injEq, Prod.mk.injEq] at hq; obtain ⟨rfl, rfl, rfl⟩ := hq; exact hp.1.1
                        · split at hq
                          · split at hq
                            · simp only [Option.some.injEq, Prod.mk.injEq] at hq; obtain ⟨rfl, rfl, rfl⟩ := hq; exact hp.1.1
                            · simp only [Option.some.injEq, Prod.mk.injEq] at hq; obtain ⟨rfl, rfl, rfl⟩ := hq; exact hp.1.1
                          · cases hq
                        · cases hq
                      · cases hq
                  · cases hq
                · cases hq
              · cases hq
            exact rdC_mapped (hv s (hao s (by simp)) hs) id hid
          · cases hq
        | copy =>
          simp only [wrOf] at hid
          simp only [opM] at hq
          split at hq
          · rename_i s x t tx ha1 ha2
            rw [ha1] at hid hao
            simp only at hid
            have hs : (ev T s).gd = true := by
              split at hq
              · split at hq
                · split at hq
                  · split at hq
                    · split at hq
                      · simp only [Option.some.injEq, Prod.mk.injEq] at hq; obtain ⟨rfl, rfl, rfl⟩ := hq; exact hp.1.1
                      · simp only [Option.some.injEq, Prod.mk.injEq] at hq; obtain ⟨rfl, rfl, rfl⟩ := hq; exact hp.1.1
                      · split at hq
                        · simp only [Option.some.injEq, Prod.mk.injEq] at hq; obtain ⟨rfl, rfl, rfl⟩ := hq; exact hp.1.1
                        · cases hq
                      · cases hq
                    · cases hq
                  · cases hq
                · cases hq
              · cases hq
            exact rdC_mapped (hv s (hao s (by simp)) hs) id hid
          · cases hq
        | clear =>
          simp only [wrOf] at hid
          simp only [opM] at hq
          split at hq
          · rename_i s t ha1 ha2
            rw [ha1] at hid hao
            simp only at hid
            have hs : (ev T s).gd = true := by
              split at hq
              · split at hq
                · split at hq
                  · split at hq
                    · simp only [Option.some.injEq, Prod.mk.injEq] at hq; obtain ⟨rfl, rfl, rfl⟩ := hq; exact hp
                    · simp only [Option.some.injEq, Prod.mk.injEq] at hq; obtain ⟨rfl, rfl, rfl⟩ := hq; exact hp
                    · split at hq
                      · simp only [Option.some.injEq, Prod.mk.injEq] at hq; obtain ⟨rfl, rfl, rfl⟩ := hq; exact hp.1
                      · cases hq
                    · cases hq
                  · cases hq
                · cases hq
              · cases hq
            exact rdC_mapped (hv s (hao s (by simp)) hs) id hid
          · cases hq
        | _ => simp [opM] at hq
    | _ => simp [wrOf] at hid

/-- THE OPERATION IN A PART OF THE HEAP: the slots that it looks at stand for what they stand for in the order of the text. -/
theorem certU_does (ht : TabOk P tab) {o : Oper} {v : AV} {f : Foot} (h : CertU P tab T H o.op v H1 f) (hf : opFit N o.op = true) (hN : a.tmps.size = N) (hs : ∀ t, .tmp t ∈ o.op.operands.toList → relV ρ (T t) (a.tmps.getD t undef))
    (hr : Rel ρ (killL (keepF H f) H) w) : Does P a o w fun u w' => ∃ ρ', relV ρ' v u ∧ Rel ρ' (killL (keepF H f) H1) w' ∧ Stp H.length ρ (killL (keepF H f) H) w ρ' (killL (keepF H f) H1) w' := by
  have hms := mask_slots hN hs
  have hev : ∀ x ∈ o.op.operands.toList, ev T x = ev (maskT T o.op.operands.toList) x := fun x hx => mask_ev hx
  have hl : (killL (keepF H f) H).length = H.length := killL_length _ _
  intro next Q hn
  cases h with
  | mv x hx =>
    have hxo : x ∈ o.op.operands.toList := by rcases hx with e | e <;> rw [e] <;> simp [Op.operands]
    have hfx : Operand.fit N x = true := List.all_eq_true.1 hf x hxo
    have hv := ev_rel hms hfx
    rw [← hev x hxo] at hv
    have hrun : (execOp a.eval o).run P w = .ok (.value (a.eval x)) w := by
      unfold execOp
      rcases hx with e | e <;> rw [e] <;> rfl
    unfold Oper.wp
    rw [hrun]
    exact hn _ _ ⟨ρ, hv, hr, Stp.refl _ _ _ _⟩
  | q p x hq hp =>
    have hq2 : opQ tab (maskT T o.op.operands.toList) (killL (keepF H ⟨some (rdOf T o.op), []⟩) H) o.op = some (p, x) := by
      rw [opQ_H (H := H) fun id hid => killL_of ?_, ← opQ_T hev]; exact hq
      rw [← rdOf_T hev] at hid
      simp [keepF, hid]
    obtain ⟨u, hu, hru⟩ := opQ_sound ht hms hr hf hq2 hp
    unfold Oper.wp
    rw [hu]
    exact hn _ _ ⟨ρ, hru, hr, Stp.refl _ _ _ _⟩
  | m p x _ hq hp =>
    have hq1 : opM tab (maskT T o.op.operands.toList) H o.op = some (p, x, H1) := by rw [← opM_T hev]; exact hq
    have hq2 := opM_kill (K := keepF H ⟨some (rdOf T o.op), wrOf T o.op⟩) hq1 (fun id hid => by rw [← rdOf_T hev] at hid; simp [keepF, hid]) (fun i hi => by simp [keepF]; omega)
    obtain ⟨r, w', ρ', hu, ⟨u, hru, hv⟩, h1, h2⟩ := opM_sound ht hms hr hf hq2 hp
    rw [hl] at h2
    unfold Oper.wp
    rw [hu]
    rcases hru with rfl | ⟨rfl, rfl⟩
    · exact hn _ _ ⟨ρ', hv, h1, h2⟩
    · exact hn _ _ ⟨ρ', hv, h1, h2⟩
  | call g args ats f cs G v hop hg hgd ha hc hG =>
    have hk : ∀ X, killL (keepF H ⟨none, []⟩) X = X := fun X => by
      apply List.ext_getElem?
      intro i
      exact killL_of rfl
    rw [hk] at hr
    simp only [hk] at hn
    have hgo : g ∈ o.op.operands.toList := by rw [hop]; simp [Op.operands, Call.operands]
    have hao : ∀ x ∈ args.toList, x ∈ o.op.operands.toList := fun x hx => by rw [hop]; simp [Op.operands, Call.operands]; exact .inr (by simpa using hx)
    rw [hop] at hf
    obtain ⟨f1, f2⟩ := fit_call rfl hf
    have hgv := ac_rel hms f1 (by rw [← hev g hgo]; exact hgd)
    rw [← hev g hgo, hg] at hgv
    obtain ⟨vs, e1, e2⟩ := caps_rel hgv
    have hac := args_congr (T := T) (T' := maskT T o.op.operands.toList) (xs := args.toList) fun x hx => hev x (hao x hx)
    have har := args_sound hms f2 (by rw [← hac]; exact ha)
    rw [← hac] at har
    refine call_wp hop e1 hr (args_append har e2) hc ?_
    rintro ρ' v' u H' w' q1 q2 q3 q4 ⟨rfl, rfl⟩
    exact hn _ _ ⟨ρ', q1, q2, q4⟩

/-- It can be done: there is a world behind it. -/
theorem certU_exists (ht : TabOk P tab) {o : Oper} {v : AV} {f : Foot} (h : CertU P tab T H o.op v H1 f) (hf : opFit N o.op = true) (hs : Slots ρ N T a) (hr : Rel ρ H w) :
    ∃ u ρ' w', relV ρ' v u ∧ Rel ρ' H1 w' ∧ Stp H.length ρ H w ρ' H1 w' := by
  cases h with
  | mv x hx =>
    have hxo : x ∈ o.op.operands.toList := by rcases hx with e | e <;> rw [e] <;> simp [Op.operands]
    exact ⟨_, ρ, w, ev_rel hs (List.all_eq_true.1 hf x hxo), hr, Stp.refl _ _ _ _⟩
  | q p x hq hp => obtain ⟨u, hu, hru⟩ := opQ_sound ht hs hr hf hq hp; exact ⟨u, ρ, w, hru, hr, Stp.refl _ _ _ _⟩
  | m p x _ hq hp =>
    obtain ⟨r, w', ρ', hu, ⟨u, hru, hv⟩, h1, h2⟩ := opM_sound ht hs hr hf hq hp
    exact ⟨u, ρ', w', hv, h1, h2⟩
  | call g args ats f cs G v hop hg hgd ha hc hG =>
    rw [hop] at hf
    obtain ⟨f1, f2⟩ := fit_call rfl hf
    have hgv := ac_rel hs f1 hgd
    rw [hg] at hgv
    obtain ⟨vs, e1, e2⟩ := caps_rel hgv
    have har := args_sound hs f2 ha
    obtain ⟨e, w', fr, ⟨v', ρ', H', u, _, q1, q2, q3, q4, rfl, rfl⟩, _⟩ := hc.2 ρ w _ (args_append har e2) hr []
    exact ⟨u, ρ', w', q1, q2, q4⟩
end
end Go.Proofs.Ytjjhogleiolngaa
