/- The abstract machine: programs' logic. Contracts of functions, codes, regions. No program stands here. -/
import Derived.Test.YtjjhogleiolngaaA8
import Derived.LoopN
namespace Go.Proofs.Ytjjhogleiolngaa
open Go.RowKit

def upd (T : Nat → AV) (d : Nat) (v : AV) : Nat → AV := fun i => if i = d then v else T i
def putD (T : Nat → AV) (d : Option Tmp) (v : AV) : Nat → AV :=
  match d with
  | some d => upd T d v
  | none => T
def T0 : List AC → Nat → Nat → AV
  | [], _ => fun _ => .c .top
  | x :: xs, k => upd (T0 xs (k + 1)) k (.c x)

def relArgs (ρ : Map) (xs : List AC) (vs : Array Value) : Prop := vs.size = xs.length ∧ ∀ (j : Nat) (x : AC), xs[j]? = some x → ∃ u, vs[j]? = some u ∧ relC ρ x u

/-- What a call of a function comes to, in the abstract. -/
def ACalls (P : Program) (f : FuncId) (args : List AC) (H : List Blk) (Q : AV → List Blk → Prop) : Prop :=
  (∃ fn c, P.funcs[f]? = some fn ∧ (fn.name == "runtime.NumGoroutine") = false ∧ fn.body = some c) ∧
  ∀ ρ w (cargs : Array Value), relArgs ρ args cargs → Rel ρ H w →
    Calls P f cargs w fun e w' => ∃ v ρ' H' u, e = .returned u ∧ relV ρ' v u ∧ Rel ρ' H' w' ∧ H.length ≤ H'.length ∧ Stp H.length ρ H w ρ' H' w' ∧ Q v H'

theorem ACalls.mono {P : Program} {f : FuncId} {args : List AC} {H : List Blk} {Q Q' : AV → List Blk → Prop} (h : ACalls P f args H Q) (hq : ∀ v H', Q v H' → Q' v H') : ACalls P f args H Q' :=
  ⟨h.1, fun ρ w cargs h1 h2 => (h.2 ρ w cargs h1 h2).mono fun _ _ ⟨v, ρ', H', u, a, b, c, d, e, q⟩ => ⟨v, ρ', H', u, a, b, c, d, e, hq _ _ q⟩⟩

/-- How a frame and a world stand for slots and a heap, since the function began. -/
structure Sim (ρ0 : Map) (H0 : List Blk) (w0 : World) (N : Nat) (ρ : Map) (T : Nat → AV) (H : List Blk) (a : Act) (w : World) : Prop where
  dfr : a.defers = []
  slots : Slots ρ N T a
  rel : Rel ρ H w
  len : H0.length ≤ H.length
  stp : Stp H0.length ρ0 H0 w0 ρ H w

def fitOps (N : Nat) (l : List Oper) : Bool := l.all fun o => opFit N o.op && (match o.dst with | some d => decide (d < N) | none => true)
def fitC (N : Nat) : Code → Bool
  | .region _ ops _ => fitOps N ops.toList
  | .seq a b => fitC N a && fitC N b
  | .cond c a b => Operand.fit N c && fitC N a && fitC N b
  | .block _ c => fitC N c
  | .loop c => fitC N c
  | _ => true

/-- The law of a stretch of code. -/
def AWP (P : Program) (N : Nat) (H0 : List Blk) (c : Code) (Q : Exit → (Nat → AV) → List Blk → Prop) (T : Nat → AV) (H : List Blk) : Prop :=
  fitC N c = true → ∀ ρ0 w0, Rel ρ0 H0 w0 → ∀ ρ a w, Sim ρ0 H0 w0 N ρ T H a w →
    c.wp P (fun e a' w' => ∃ ρ' T' H', Sim ρ0 H0 w0 N ρ' T' H' a' w' ∧ Q e T' H') a w

def nx (K : (Nat → AV) → List Blk → Prop) (Q : Exit → (Nat → AV) → List Blk → Prop) : Exit → (Nat → AV) → List Blk → Prop
  | .normal, T, H => K T H
  | e, T, H => Q e T H
def nxB (id : Nat) (Q : Exit → (Nat → AV) → List Blk → Prop) : Exit → (Nat → AV) → List Blk → Prop
  | .exit id', T, H => if id' = id then Q .normal T H else Q (.exit id') T H
  | e, T, H => Q e T H

section
variable {P : Program} {N : Nat} {H0 : List Blk} {Q : Exit → (Nat → AV) → List Blk → Prop} {T : Nat → AV} {H : List Blk}

theorem AWP.mono {c : Code} {Q' : Exit → (Nat → AV) → List Blk → Prop} (h : AWP P N H0 c Q T H) (hq : ∀ e T H, Q e T H → Q' e T H) : AWP P N H0 c Q' T H :=
  fun hf ρ0 w0 hr ρ a w hs => wp_mono (h hf ρ0 w0 hr ρ a w hs) fun _ _ _ ⟨ρ', T', H', q1, q2⟩ => ⟨ρ', T', H', q1, hq _ _ _ q2⟩
theorem awp_seq {x y : Code} (h : AWP P N H0 x (nx (AWP P N H0 y Q) Q) T H) : AWP P N H0 (.seq x y) Q T H := by
  intro hf ρ0 w0 hr ρ a w hs
  simp only [fitC, Bool.and_eq_true] at hf
  refine wp_seq (wp_mono (h hf.1 ρ0 w0 hr ρ a w hs) ?_)
  rintro e a' w' ⟨ρ', T', H', q1, q2⟩
  cases e with
  | normal => exact q2 hf.2 ρ0 w0 hr ρ' a' w' q1
  | _ => exact ⟨ρ', T', H', q1, q2⟩
theorem awp_cond {c : Operand} {x y : Code} {t : Bool} (hc : (ev T c).ac = .sc (.bool t)) (hg : (ev T c).gd = true) (h1 : t = true → AWP P N H0 x Q T H) (h2 : t = false → AWP P N H0 y Q T H) : AWP P N H0 (.cond c x y) Q T H := by
  intro hf ρ0 w0 hr ρ a w hs
  simp only [fitC, Bool.and_eq_true] at hf
  have hv := ac_rel hs.slots hf.1.1 hg
  rw [hc] at hv
  have hv : a.eval c = .bool t := hv
  exact wp_cond_split hv (fun e => h1 e hf.1.2 ρ0 w0 hr ρ a w hs) (fun e => h2 e hf.2 ρ0 w0 hr ρ a w hs)
theorem awp_block {id : Nat} {c : Code} (h : AWP P N H0 c (nxB id Q) T H) : AWP P N H0 (.block id c) Q T H := by
  intro hf ρ0 w0 hr ρ a w hs
  refine wp_block (wp_mono (h hf ρ0 w0 hr ρ a w hs) ?_)
  rintro e a' w' ⟨ρ', T', H', q1, q2⟩
  cases e with
  | exit id' =>
    simp only [Exit.inBlock]
    simp only [nxB] at q2
    split
    · rename_i e; rw [if_pos e] at q2; exact ⟨ρ', T', H', q1, q2⟩
    · rename_i e; rw [if_neg e] at q2; exact ⟨ρ', T', H', q1, q2⟩
  | _ => exact ⟨ρ', T', H', q1, q2⟩
theorem awp_skip (h : Q .normal T H) : AWP P N H0 .skip Q T H := fun _ _ _ _ ρ _ _ hs => wp_skip ⟨ρ, T, H, hs, h⟩
theorem awp_ret (h : Q .ret T H) : AWP P N H0 .ret Q T H := fun _ _ _ _ ρ _ _ hs => wp_ret ⟨ρ, T, H, hs, h⟩
theorem awp_exit {id : Nat} (h : Q (.exit id) T H) : AWP P N H0 (.exit id) Q T H := fun _ _ _ _ ρ _ _ hs => wp_exit ⟨ρ, T, H, hs, h⟩

theorem rounds_mono {c : Code} {R : Exit → Act → World → Prop} : ∀ (n : Nat) (a : Act) (w : World), Code.rounds P c R n a w → Code.rounds P c R (n + 1) a w
  | 0, _, _, h => h.elim
  | n + 1, a, w, h => by
    rw [rounds_succ] at h ⊢
    refine wp_mono h ?_
    intro e a' w' q
    cases e with
    | normal => exact rounds_mono n a' w' q
    | _ => exact q
theorem rounds_le {c : Code} {R : Exit → Act → World → Prop} {n m : Nat} (h : n ≤ m) {a : Act} {w : World} (q : Code.rounds P c R n a w) : Code.rounds P c R m a w := by
  induction h with
  | refl => exact q
  | step _ ih => exact rounds_mono _ _ _ ih

/-- Less is known behind, or a state of the same meaning. -/
def Wk (N : Nat) (H0 : List Blk) (T : Nat → AV) (H : List Blk) (T' : Nat → AV) (H' : List Blk) : Prop :=
  ∀ ρ0 w0 ρ a w, Rel ρ0 H0 w0 → Sim ρ0 H0 w0 N ρ T H a w → ∃ ρ', Sim ρ0 H0 w0 N ρ' T' H' a w
theorem Wk.refl : Wk N H0 T H T H := fun _ _ ρ _ _ _ h => ⟨ρ, h⟩
theorem awp_wk {c : Code} {T' : Nat → AV} {H' : List Blk} (hw : Wk N H0 T H T' H') (h : AWP P N H0 c Q T' H') : AWP P N H0 c Q T H := by
  intro hf ρ0 w0 hr ρ a w hs
  obtain ⟨ρ', hs'⟩ := hw ρ0 w0 ρ a w hr hs
  exact h hf ρ0 w0 hr ρ' a w hs'
theorem wk_forget {T' : Nat → AV} (h : ∀ i, T' i = .c .top ∨ T' i = T i) : Wk N H0 T H T' H := fun ρ0 w0 ρ a w _ hs =>
  ⟨ρ, { hs with slots := ⟨hs.slots.1, fun i hi => by
    rcases h i with e | e
    · rw [e]; exact trivial
    · rw [e]; exact hs.slots.2 i hi⟩ }⟩

/-- A loop: a family of states, each round leads to one of smaller measure, or out. -/
theorem awp_loop {α : Type} {c : Code} (I : α → (Nat → AV) × List Blk) (m : α → Nat)
    (round : ∀ x, AWP P N H0 c (nx (fun T' H' => ∃ y, m y < m x ∧ Wk N H0 T' H' (I y).1 (I y).2) Q) (I x).1 (I x).2) (x : α) : AWP P N H0 (.loop c) Q (I x).1 (I x).2 := by
  intro hf ρ0 w0 hr
  have hf' : fitC N c = true := hf
  have key : ∀ n x, m x = n → ∀ ρ a w, Sim ρ0 H0 w0 N ρ (I x).1 (I x).2 a w → Code.rounds P c (fun e a' w' => ∃ ρ' T' H', Sim ρ0 H0 w0 N ρ' T' H' a' w' ∧ Q e T' H') (n + 1) a w := by
    intro n
    induction n using Nat.strongRecOn with
    | _ n ih =>
      intro x hx ρ a w hs
      rw [rounds_succ]
      refine wp_mono (round x hf' ρ0 w0 hr ρ a w hs) ?_
      rintro e a' w' ⟨ρ', T', H', q1, q2⟩
      cases e with
      | normal =>
        obtain ⟨y, hy, hw⟩ := q2
        obtain ⟨ρ2, hs2⟩ := hw ρ0 w0 ρ' a' w' hr q1
        exact rounds_le (by omega) (ih (m y) (by omega) y rfl ρ2 a' w' hs2)
      | _ => exact ⟨ρ', T', H', q1, q2⟩
  intro ρ a w hs
  exact wp_loop_rounds _ (key _ x rfl ρ a w hs)

/-! ### Regions -/
def argsC (T : Nat → AV) : List Operand → Prop × List AC
  | [] => (True, [])
  | x :: r => ((ev T x).gd = true ∧ (argsC T r).1, (ev T x).ac :: (argsC T r).2)
def capsC (l : List (Nat × Nat)) : List AC := l.map fun p => .sc (.ptr p.1 p.2)
/-- The first entry of a key. -/
def idxM : List (Int × Int) → Int → Nat → Option (Nat × Int)
  | [], _, _ => none
  | p :: r, x, i => if x = p.1 then some (i, p.2) else idxM r x (i + 1)
def getM (l : List (Int × Int)) (x : Int) : Int := match idxM l x 0 with | some q => q.2 | none => 0
def putM (l : List (Int × Int)) (x y : Int) : List (Int × Int) := match idxM l x 0 with | some q => l.set q.1 (x, y) | none => l ++ [(x, y)]
def mapKK (tab : TypeId → Option TI) (t : TypeId) : Option (IntKind × IntKind) :=
  match tab t with
  | some i => match i.k with
    | .map k e => match tab k, tab e with
      | some ik, some ie => match ik.k, ie.zero with
        | .int kk, .sc (.int kv 0) => some (kk, kv)
        | _, _ => none
      | _, _ => none
    | _ => none
  | none => none
/-- One operation that no guard stands before. -/
def stepA (P : Program) (tab : TypeId → Option TI) (T : Nat → AV) (H : List Blk) (op : Op) (K : AV → List Blk → Prop) : Prop :=
  match op with
  | .move x | .assign x => K (ev T x) H
  | .call { callee := .value (.func f), args, .. } => (argsC T args.toList).1 ∧ ACalls P f (argsC T args.toList).2 H K
  | .call { callee := .value g, args, .. } => match (ev T g).ac with
    | .sc (.fn f cs) => (ev T g).gd = true ∧ (argsC T args.toList).1 ∧ ACalls P f ((argsC T args.toList).2 ++ capsC cs) H K
    | _ => False
  | .makeMap t none => match mapKK tab t with
    | some (kk, kv) => K (.c (.sc (.mp H.length))) (H ++ [.mapB kk kv []])
    | none => False
  | .lookup t m x false => match mapKK tab t, (ev T m).ac, (ev T x).ac with
    | some (kk, kv), .sc (.mp id), .sc (.int k n) => match H[id]? with
      | some (.mapB k1 k2 es) => ((ev T m).gd = true ∧ (ev T x).gd = true ∧ k = kk ∧ k1 = kk ∧ k2 = kv) ∧ K (.c (.sc (.int kv (getM es n)))) H
      | _ => False
    | _, _, _ => False
  | .mapUpdate t m x y => match mapKK tab t, (ev T m).ac, (ev T x).ac, (ev T y).ac with
    | some (kk, kv), .sc (.mp id), .sc (.int k n), .sc (.int k' z) => match H[id]? with
      | some (.mapB k1 k2 es) => ((ev T m).gd = true ∧ (ev T x).gd = true ∧ (ev T y).gd = true ∧ k = kk ∧ k1 = kk ∧ k2 = kv ∧ k' = kv) ∧ K (.c .top) (H.set id (.mapB k1 k2 (putM es n z)))
      | _ => False
    | _, _, _, _ => False
  | op => match opQ tab T H op with
    | some (p, v) => p ∧ K (.c v) H
    | none => match opM tab T H op with
      | some (p, v, H') => p ∧ K (.c v) H'
      | none => False
/-- One operation behind a guard whose slot holds 't': nothing is written. -/
def stepG (P : Program) (tab : TypeId → Option TI) (T : Nat → AV) (H : List Blk) (op : Op) (g : Bool) (K : AV → Prop) : Prop :=
  match op with
  | .call { callee := .value (.func f), args, .. } => ∃ v : AC, (g = true → (argsC T args.toList).1 ∧ ACalls P f (argsC T args.toList).2 H fun v' H' => v' = .c v ∧ H' = H) ∧ K (.grd g v)
  | .call { callee := .value h, args, .. } => match (ev T h).ac with
    | .sc (.fn f cs) => ∃ v : AC, (g = true → (ev T h).gd = true ∧ (argsC T args.toList).1 ∧ ACalls P f ((argsC T args.toList).2 ++ capsC cs) H fun v' H' => v' = .c v ∧ H' = H) ∧ K (.grd g v)
    | _ => False
  | op => match opQ tab T H op with
    | some (p, v) => (g = true → p) ∧ K (.grd g v)
    | none => g = false ∧ K (.grd g .top)
def opsA (P : Program) (tab : TypeId → Option TI) (ds : List (Option Tmp)) : List Oper → ((Nat → AV) → List Blk → Prop) → (Nat → AV) → List Blk → Prop
  | [], K, T, H => K T H
  | o :: rest, K, T, H => match o.guard with
    | none => stepA P tab T H o.op fun v H' => opsA P tab ds rest K (putD T o.dst v) H'
    | some (j, want) => match ds[j]? with
      | some (some s) => match (T s).ac with
        | .sc (.bool t) => stepG P tab T H o.op ((T s).gd && (t == want)) fun v => opsA P tab ds rest K (putD T o.dst v) H
        | _ => False
      | _ => False

section
variable {tab : TypeId → Option TI} {ρ0 : Map} {w0 : World} {ρ : Map} {a : Act} {w : World}

theorem slots_put {ρ' : Map} (hs : Slots ρ N T a) (hle : ρ.le ρ') {d : Option Tmp} (hd : ∀ i, d = some i → i < N) {v : AV} {u : Value} (hv : relV ρ' v u) : Slots ρ' N (putD T d v) (a.put d u) := by
  cases d with
  | none => exact ⟨hs.1, fun i hi => relV_le hle (hs.2 i hi)⟩
  | some d =>
    refine ⟨by simp [Act.put, hs.1], fun i hi => ?_⟩
    have hdN := hd d rfl
    simp only [putD, upd, Act.put]
    split
    · rename_i e; subst e
      rw [Array.getD_eq_getD_getElem?, Array.getElem?_setIfInBounds, if_pos rfl, if_pos (by rw [hs.1]; exact hdN)]; exact hv
    · rename_i e
      have := hs.2 i hi
      rw [Array.getD_eq_getD_getElem?] at this ⊢
      rw [Array.getElem?_setIfInBounds, if_neg (fun h => e h.symm)]
      exact relV_le hle this
theorem put_defers (d : Option Tmp) (u : Value) : (a.put d u).defers = a.defers := by cases d <;> rfl

theorem sim_put (hs : Sim ρ0 H0 w0 N ρ T H a w) {d : Option Tmp} (hd : ∀ i, d = some i → i < N) {v : AV} {u : Value} (hv : relV ρ v u) : Sim ρ0 H0 w0 N ρ (putD T d v) H (a.put d u) w :=
  ⟨by rw [put_defers]; exact hs.dfr, slots_put hs.slots (Map.le_refl _) hd hv, hs.rel, hs.len, hs.stp⟩
theorem sim_put' (hs : Sim ρ0 H0 w0 N ρ T H a w) {ρ' : Map} {H' : List Blk} {w' : World} (hr : Rel ρ' H' w') (hl : H.length ≤ H'.length) (hst : Stp H.length ρ H w ρ' H' w') {d : Option Tmp} (hd : ∀ i, d = some i → i < N) {v : AV} {u : Value} (hv : relV ρ' v u) : Sim ρ0 H0 w0 N ρ' (putD T d v) H' (a.put d u) w' :=
  ⟨by rw [put_defers]; exact hs.dfr, slots_put hs.slots (hst.le hs.rel) hd hv, hr, Nat.le_trans hs.len hl, hs.stp.trans (hst.mono hs.len)⟩

theorem args_sound (hs : Slots ρ N T a) : ∀ {xs : List Operand}, xs.all (Operand.fit N) = true → (argsC T xs).1 → relArgs ρ (argsC T xs).2 (xs.map a.eval).toArray
  | [], _, _ => ⟨rfl, fun j x h => by simp [argsC] at h⟩
  | x :: r, hf, hp => by
    simp only [List.all_cons, Bool.and_eq_true] at hf
    have ih := args_sound hs hf.2 hp.2
    refine ⟨by have := ih.1; simp at this; simp [argsC, this], fun j y hj => ?_⟩
    cases j with
    | zero => simp only [argsC, List.getElem?_cons_zero, Option.some.injEq] at hj; subst hj; exact ⟨a.eval x, by simp, ac_rel hs hf.1 hp.1⟩
    | succ j =>
      simp only [argsC, List.getElem?_cons_succ] at hj
      obtain ⟨u, hu, hr⟩ := ih.2 j y hj
      exact ⟨u, by simpa using hu, hr⟩
theorem relArgs_append {xs ys : List AC} {us vs : Array Value} (h : relArgs ρ xs us) (k : relArgs ρ ys vs) : relArgs ρ (xs ++ ys) (us ++ vs) := by
  refine ⟨by simp [h.1, k.1], fun j x hj => ?_⟩
  by_cases hlt : j < xs.length
  · rw [List.getElem?_append_left hlt] at hj
    obtain ⟨u, hu, r⟩ := h.2 j x hj
    exact ⟨u, by rw [Array.getElem?_append_left (by rw [h.1]; exact hlt)]; exact hu, r⟩
  · rw [List.getElem?_append_right (by omega)] at hj
    obtain ⟨u, hu, r⟩ := k.2 _ x hj
    exact ⟨u, by rw [Array.getElem?_append_right (by rw [h.1]; omega), h.1]; exact hu, r⟩

theorem opM_len {op : Op} {p : Prop} {v : AC} {H' : List Blk} (h : opM tab T H op = some (p, v, H')) : H.length ≤ H'.length := by
  unfold opM at h
  repeat' split at h
  all_goals first
    | (cases h; done)
    | (simp only [Option.some.injEq, Prod.mk.injEq] at h; obtain ⟨_, _, rfl⟩ := h; first | (simp; done) | (split <;> simp; done))
end
end
end Go.Proofs.Ytjjhogleiolngaa
