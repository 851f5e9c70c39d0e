/- The abstract machine: regions whose order is drawn, fourth part: whatever order is drawn, the state at the end is the one of the order of the text. No program stands here. -/
import Derived.Test.YtjjhogleiolngaaA15
namespace Go.Proofs.Ytjjhogleiolngaa
open Go.RowKit

/-- An operation with its guard, in the order of the text. -/
def Cert (P : Program) (tab : TypeId → Option TI) (ds : List (Option Tmp)) (o : Oper) (T : Nat → AV) (H : List Blk) (v : AV) (H1 : List Blk) (f : Foot) : Prop :=
  match o.guard with
  | none => CertU P tab T H o.op v H1 f
  | some (j, want) => ∃ s t x, ds[j]? = some (some s) ∧ (T s).ac = .sc (.bool t) ∧ v = .grd ((T s).gd && (t == want)) x ∧ H1 = H ∧ f.wr = [] ∧ (((T s).gd && (t == want)) = true → CertU P tab T H o.op (.c x) H f)

/-- One operation of a region whose order is drawn. -/
def stepD (P : Program) (tab : TypeId → Option TI) (T : Nat → AV) (H : List Blk) (op : Op) (K : AV → List Blk → Foot → Prop) : Prop :=
  match op with
  | .move x | .assign x => K (ev T x) H ⟨some [], []⟩
  | .call { callee := .value g, args, .. } => match (ev T g).ac with
    | .sc (.fn f cs) => (ev T g).gd = true ∧ (argsC T args.toList).1 ∧ ∃ v G, ACalls P f ((argsC T args.toList).2 ++ capsC cs) H (fun v' H' => v' = v ∧ H' = H ++ G) ∧ (∀ b ∈ G, b.live → b.isOwn) ∧ K v (H ++ G) ⟨none, []⟩
    | _ => False
  | op => match opQ tab T H op with
    | some (p, v) => p ∧ K (.c v) H ⟨some (rdOf T op), []⟩
    | none => match opM tab T H op with
      | some (p, v, H') => p ∧ K (.c v) H' ⟨some (rdOf T op), wrOf T op⟩
      | none => False
def stepDG (P : Program) (tab : TypeId → Option TI) (T : Nat → AV) (H : List Blk) (op : Op) (g : Bool) (K : AV → Foot → Prop) : Prop :=
  match op with
  | .call { callee := .value h, args, .. } => match (ev T h).ac with
    | .sc (.fn f cs) => ∃ v : AC, (g = true → (ev T h).gd = true ∧ (argsC T args.toList).1 ∧ ACalls P f ((argsC T args.toList).2 ++ capsC cs) H fun v' H' => v' = .c v ∧ H' = H) ∧ K (.grd g v) ⟨none, []⟩
    | _ => False
  | op => match opQ tab T H op with
    | some (p, v) => (g = true → p) ∧ K (.grd g v) ⟨some (rdOf T op), []⟩
    | none => g = false ∧ K (.grd g .top) ⟨some [], []⟩
def opsD (P : Program) (tab : TypeId → Option TI) (ds : List (Option Tmp)) : List Oper → List Foot → (List Foot → (Nat → AV) → List Blk → Prop) → (Nat → AV) → List Blk → Prop
  | [], fs, K, T, H => K fs T H
  | o :: rest, fs, K, T, H => match o.guard with
    | none => stepD P tab T H o.op fun v H' f => opsD P tab ds rest (fs ++ [f]) K (putD T o.dst v) H'
    | some (j, want) => match ds[j]? with
      | some (some s) => match (T s).ac with
        | .sc (.bool t) => stepDG P tab T H o.op ((T s).gd && (t == want)) fun v f => opsD P tab ds rest (fs ++ [f]) K (putD T o.dst v) H
        | _ => False
      | _ => False

section
variable {P : Program} {tab : TypeId → Option TI} {T : Nat → AV} {H : List Blk}
theorem stepD_cert {op : Op} {K : AV → List Blk → Foot → Prop} (h : stepD P tab T H op K) : ∃ v H1 f, CertU P tab T H op v H1 f ∧ K v H1 f := by
  unfold stepD at h
  split at h
  · exact ⟨_, _, _, .mv _ (.inl rfl), h⟩
  · exact ⟨_, _, _, .mv _ (.inr rfl), h⟩
  · split at h
    · rename_i g args ats _ f cs hg
      obtain ⟨h1, h2, v, G, h3, h4, h5⟩ := h
      exact ⟨_, _, _, .call g args ats f cs G v rfl hg h1 h2 h3 h4, h5⟩
    · exact h.elim
  · split at h
    · rename_i p v hq; exact ⟨_, _, _, .q p v hq h.1, h.2⟩
    · split at h
      · rename_i p v H' hq; exact ⟨_, _, _, .m p v H' hq h.1, h.2⟩
      · exact h.elim
theorem stepDG_cert {op : Op} {g : Bool} {K : AV → Foot → Prop} (h : stepDG P tab T H op g K) : ∃ x f, f.wr = [] ∧ (g = true → CertU P tab T H op (.c x) H f) ∧ K (.grd g x) f := by
  unfold stepDG at h
  split at h
  · split at h
    · rename_i g' args ats _ f cs hg
      obtain ⟨v, h1, h2⟩ := h
      refine ⟨v, ⟨none, []⟩, rfl, fun e => ?_, h2⟩
      obtain ⟨q1, q2, q3⟩ := h1 e
      have := CertU.call (P := P) (tab := tab) (T := T) (H := H) g' args ats f cs [] (.c v) rfl hg q1 q2 (by simpa using q3) (fun b hb => by cases hb)
      simpa using this
    · exact h.elim
  · split at h
    · rename_i p v hq; exact ⟨v, _, rfl, fun e => .q p v hq (h.1 e), h.2⟩
    · exact ⟨.top, _, rfl, fun e => (by rw [h.1] at e; cases e), h.2⟩

theorem opsD_run {ds : List (Option Tmp)} {K : List Foot → (Nat → AV) → List Blk → Prop} : ∀ (l : List Oper) (fs : List Foot) (T : Nat → AV) (H : List Blk), opsD P tab ds l fs K T H →
    ∃ (tT : Nat → Nat → AV) (tH : Nat → List Blk) (tv : Nat → AV) (tf : Nat → Foot), tT 0 = T ∧ tH 0 = H ∧ (∀ k o, l[k]? = some o → Cert P tab ds o (tT k) (tH k) (tv k) (tH (k + 1)) (tf k) ∧ tT (k + 1) = putD (tT k) o.dst (tv k)) ∧
      K (fs ++ (List.range l.length).map tf) (tT l.length) (tH l.length)
  | [], fs, T, H, h => ⟨fun _ => T, fun _ => H, fun _ => .c .top, fun _ => ⟨none, []⟩, rfl, rfl, fun k o hk => by simp at hk, by simpa [opsD] using h⟩
  | o :: rest, fs, T, H, h => by
    have key : ∃ v H1 f, Cert P tab ds o T H v H1 f ∧ opsD P tab ds rest (fs ++ [f]) K (putD T o.dst v) H1 := by
      unfold opsD at h
      unfold Cert
      split at h
      · rename_i hg
        obtain ⟨v, H1, f, h1, h2⟩ := stepD_cert h
        exact ⟨v, H1, f, h1, h2⟩
      · rename_i j want hg
        split at h
        · rename_i s hj
          split at h
          · rename_i t ht
            obtain ⟨x, f, q1, q2, q3⟩ := stepDG_cert h
            exact ⟨_, H, f, ⟨s, t, x, hj, ht, rfl, rfl, q1, q2⟩, q3⟩
          · exact h.elim
        · exact h.elim
    obtain ⟨v, H1, f, hc, hr⟩ := key
    obtain ⟨tT, tH, tv, tf, e1, e2, e3, e4⟩ := opsD_run rest _ _ _ hr
    refine ⟨fun k => match k with | 0 => T | k + 1 => tT k, fun k => match k with | 0 => H | k + 1 => tH k, fun k => match k with | 0 => v | k + 1 => tv k, fun k => match k with | 0 => f | k + 1 => tf k, rfl, rfl, fun k q hk => ?_, ?_⟩
    · cases k with
      | zero =>
        simp only [List.getElem?_cons_zero, Option.some.injEq] at hk
        subst hk
        simp only [e1, e2]
        exact ⟨hc, trivial⟩
      | succ k => exact e3 k q (by simpa using hk)
    · simp only [List.length_cons, List.range_succ_eq_map, List.map_cons, List.map_map]
      rw [List.append_assoc] at e4
      exact e4
end

/-! ### What is asked of the region's text -/
def clos (l : List Oper) : List (List Nat) := l.foldl (fun acc o => acc ++ [((o.after.toList.filter (Region.binds .any)).flatMap fun e => e.on :: acc.getD e.on []).eraseDups]) []
theorem clos_spec (l : List Oper) : (clos l).length = l.length ∧ ∀ (i : Nat) (S : List Nat), (clos l)[i]? = some S → ∀ k ∈ S, ∃ o e, l[i]? = some o ∧ e ∈ o.after.toList ∧ Region.binds .any e = true ∧ (k = e.on ∨ ∃ S', (clos l)[e.on]? = some S' ∧ k ∈ S') := by
  have key : ∀ (r p : List Oper) (acc : List (List Nat)), acc.length = p.length → (∀ (i : Nat) (S : List Nat), acc[i]? = some S → ∀ k ∈ S, ∃ o e, p[i]? = some o ∧ e ∈ o.after.toList ∧ Region.binds .any e = true ∧ (k = e.on ∨ ∃ S', acc[e.on]? = some S' ∧ k ∈ S')) →
      ∀ out, out = r.foldl (fun acc o => acc ++ [((o.after.toList.filter (Region.binds .any)).flatMap fun e => e.on :: acc.getD e.on []).eraseDups]) acc → out.length = (p ++ r).length ∧ ∀ (i : Nat) (S : List Nat), out[i]? = some S → ∀ k ∈ S, ∃ o e, (p ++ r)[i]? = some o ∧ e ∈ o.after.toList ∧ Region.binds .any e = true ∧ (k = e.on ∨ ∃ S', out[e.on]? = some S' ∧ k ∈ S') := by
    intro r
    induction r with
    | nil => intro p acc h1 h2 out ho; simp only [List.foldl_nil] at ho; subst ho; simpa [h1] using h2
    | cons o r ih =>
      intro p acc h1 h2 out ho
      simp only [List.foldl_cons] at ho
      have := ih (p ++ [o]) _ (by simp [h1]) ?_ out ho
      · simpa [List.append_assoc] using this
      · intro i S hS k hk
        by_cases hi : i < acc.length
        · rw [List.getElem?_append_left hi] at hS
          obtain ⟨o', e, q1, q2, q3, q4⟩ := h2 i S hS k hk
          refine ⟨o', e, by rw [List.getElem?_append_left (by omega)]; exact q1, q2, q3, ?_⟩
          rcases q4 with q4 | ⟨S', q5, q6⟩
          · exact .inl q4
          · exact .inr ⟨S', by rw [List.getElem?_append_left (List.getElem?_eq_some_iff.1 q5).1]; exact q5, q6⟩
        · rw [List.getElem?_append_right (by omega)] at hS
          by_cases h0 : i - acc.length = 0
          · rw [h0] at hS
            simp only [List.getElem?_cons_zero, Option.some.injEq] at hS
            subst hS
            rw [List.mem_eraseDups] at hk
            simp only [List.mem_flatMap, List.mem_filter, List.mem_cons] at hk
            obtain ⟨e, ⟨q1, q2⟩, q3⟩ := hk
            refine ⟨o, e, by rw [List.getElem?_append_right (by omega)]; simp [← h1, h0], q1, q2, ?_⟩
            rcases q3 with q3 | q3
            · exact .inl q3
            · refine .inr ?_
              rw [List.getD_eq_getElem?_getD] at q3
              cases hq : acc[e.on]? with
              | none => rw [hq] at q3; simp at q3
              | some S' =>
                rw [hq] at q3
                exact ⟨S', by rw [List.getElem?_append_left (List.getElem?_eq_some_iff.1 hq).1]; exact hq, by simpa using q3⟩
          · rw [List.getElem?_eq_none (by simp; omega)] at hS; cases hS
  have := key l [] [] rfl (fun i S h => by simp at h) (clos l) rfl
  simpa using this

def isWr : Op → Bool
  | .store .. => true
  | .call { callee := .builtin .append, .. } | .call { callee := .builtin .copy, .. } | .call { callee := .builtin .clear, .. } => true
  | _ => false
def isRd : Op → Bool
  | .load .. | .convert .. | .slice .. => true
  | .call { callee := .value _, .. } => true
  | _ => false
theorem wr_of_not {T : Nat → AV} {op : Op} (h : isWr op = false) : wrOf T op = [] := by
  unfold wrOf
  split <;> first | rfl | (simp [isWr] at h; done)
theorem rd_of_not {T : Nat → AV} {op : Op} (h : isWr op = false) (h2 : isRd op = false) : rdOf T op = [] := by
  unfold rdOf
  split <;> first | rfl | (simp [isWr] at h; done) | (simp [isRd] at h2; done)

/-- Reading and writing of slots, and of memory, are in order; 'ups': the pairs that must be told apart by the blocks' numbers. -/
def drawOk (ops : Array Oper) (ups : List (Nat × Nat)) : Bool :=
  let l := ops.toList
  let C := clos l
  (l.zipIdx.all fun (o, i) => o.after.toList.all fun e => !Region.binds .any e || decide (e.on < i)) &&
  (l.zipIdx.all fun (o, i) => l.zipIdx.all fun (p, k) => decide (i = k) || o.dst == none || o.dst != p.dst) &&
  (l.zipIdx.all fun (o, i) => (o.looksAt ops).all fun s => l.zipIdx.all fun (p, k) => p.dst != some s || (decide (k < i) && (C.getD i []).contains k) || (decide (i < k) && (C.getD k []).contains i)) &&
  (l.zipIdx.all fun (p, j) => l.zipIdx.all fun (o, i) => decide (j ≤ i) || (C.getD j []).contains i || (!isWr o.op && !isWr p.op) || (!isWr o.op && !isRd o.op) || (!isWr p.op && !isRd p.op) || ups.contains (i, j))

/-- Two operations do not meet. -/
def apartF (f g : Foot) : Prop :=
  (∀ a ∈ f.wr, a ∉ g.wr ∧ match g.rd with | none => False | some l => a ∉ l) ∧ (∀ a ∈ g.wr, match f.rd with | none => False | some l => a ∉ l)
def upsOk (fs : List Foot) : List (Nat × Nat) → Prop
  | [] => True
  | (i, j) :: r => (match fs[i]?, fs[j]? with | some f, some g => apartF f g | _, _ => False) ∧ upsOk fs r
theorem upsOk_mem {fs : List Foot} : ∀ {ups : List (Nat × Nat)}, upsOk fs ups → ∀ i j, (i, j) ∈ ups → ∃ f g, fs[i]? = some f ∧ fs[j]? = some g ∧ apartF f g
  | [], _, _, _, h => by cases h
  | (a, b) :: r, h, i, j, hm => by
    rcases List.mem_cons.1 hm with e | hm
    · cases e
      have := h.1
      split at this
      · rename_i f g h1 h2; exact ⟨f, g, h1, h2, this⟩
      · exact this.elim
    · exact upsOk_mem h.2 i j hm
end Go.Proofs.Ytjjhogleiolngaa
