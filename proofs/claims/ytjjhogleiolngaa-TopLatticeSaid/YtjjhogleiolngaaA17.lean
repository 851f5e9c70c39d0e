/- The abstract machine: regions whose order is drawn, fifth part: the simulation. No program stands here. -/
import Derived.Test.YtjjhogleiolngaaA16
namespace Go.Proofs.Ytjjhogleiolngaa
open Go.RowKit

section
variable {P : Program} {tab : TypeId → Option TI} {N : Nat} {ops : Array Oper} {ups : List (Nat × Nat)}

theorem zip_all {α : Type} {l : List α} {p : α × Nat → Bool} (h : l.zipIdx.all p = true) {i : Nat} {x : α} (hx : l[i]? = some x) : p (x, i) = true :=
  List.all_eq_true.1 h (x, i) (List.mem_zipIdx_iff_getElem?.2 hx)

structure Stat (ops : Array Oper) (ups : List (Nat × Nat)) : Prop where
  edges : ∀ (i : Nat) (o : Oper) (e : Edge), ops[i]? = some o → e ∈ o.after.toList → Region.binds .any e = true → e.on < i
  dst : ∀ (i j : Nat) (o p : Oper) (s : Tmp), ops[i]? = some o → ops[j]? = some p → o.dst = some s → p.dst = some s → i = j
  rw_ : ∀ (i k : Nat) (o p : Oper) (s : Tmp), ops[i]? = some o → s ∈ o.looksAt ops → ops[k]? = some p → p.dst = some s → (k < i ∧ k ∈ (clos ops.toList).getD i []) ∨ (i < k ∧ i ∈ (clos ops.toList).getD k [])
  conf : ∀ (i j : Nat) (o p : Oper), ops[i]? = some o → ops[j]? = some p → i < j → i ∈ (clos ops.toList).getD j [] ∨ (isWr o.op = false ∧ isWr p.op = false) ∨ (isWr o.op = false ∧ isRd o.op = false) ∨ (isWr p.op = false ∧ isRd p.op = false) ∨ (i, j) ∈ ups

theorem stat_of (h : drawOk ops ups = true) : Stat ops ups := by
  simp only [drawOk, Bool.and_eq_true] at h
  obtain ⟨⟨⟨h1, h2⟩, h3⟩, h4⟩ := h
  refine ⟨fun i o e ho he hb => ?_, fun i j o p s ho hp e1 e2 => ?_, fun i k o p s ho hs hp e => ?_, fun i j o p ho hp hij => ?_⟩
  · have := zip_all h1 (x := o) (i := i) (by simpa using ho)
    have := List.all_eq_true.1 this e he
    simpa [hb] using this
  · have := zip_all (zip_all h2 (x := o) (i := i) (by simpa using ho)) (x := p) (i := j) (by simpa using hp)
    simp only [e1, e2, Bool.or_eq_true, decide_eq_true_eq, bne_self_eq_false, Bool.false_eq_true, or_false] at this
    rcases this with h | h
    · exact h
    · simp at h
  · have := List.all_eq_true.1 (zip_all h3 (x := o) (i := i) (by simpa using ho)) s hs
    have := zip_all this (x := p) (i := k) (by simpa using hp)
    simpa [e] using this
  · have := zip_all (zip_all h4 (x := p) (i := j) (by simpa using hp)) (x := o) (i := i) (by simpa using ho)
    simp only [Bool.or_eq_true, decide_eq_true_eq, Bool.and_eq_true, Bool.not_eq_true', List.contains_iff_mem] at this
    rcases this with ((((h | h) | h) | h) | h) | h
    · omega
    · exact .inl h
    · exact .inr (.inl h)
    · exact .inr (.inr (.inl h))
    · exact .inr (.inr (.inr (.inl h)))
    · exact .inr (.inr (.inr (.inr h)))

theorem certU_kind {T : Nat → AV} {H H1 : List Blk} {op : Op} {v : AV} {f : Foot} (h : CertU P tab T H op v H1 f) : (isWr op = false → f.wr = []) ∧ (isWr op = false → isRd op = false → f.rd = some []) := by
  cases h with
  | mv => exact ⟨fun _ => rfl, fun _ _ => rfl⟩
  | q => exact ⟨fun _ => rfl, fun h1 h2 => by rw [rd_of_not h1 h2]⟩
  | m => exact ⟨fun h => wr_of_not h, fun h1 h2 => by rw [rd_of_not h1 h2]⟩
  | call g args ats f cs G v hop => exact ⟨fun _ => rfl, fun _ h => by rw [hop] at h; simp [isRd] at h⟩

/-- The listed operations are closed under what stands before them. -/
theorem clos_listed (hs : Stat ops ups) {listed : Array Bool} (hc : ∀ (i : Nat) (o : Oper) (e : Edge), ops[i]? = some o → listed.getD i false = true → e ∈ o.after.toList → Region.binds .any e = true → listed.getD e.on false = true) :
    ∀ (i : Nat), listed.getD i false = true → ∀ k ∈ (clos ops.toList).getD i [], listed.getD k false = true := by
  intro i
  induction i using Nat.strongRecOn with
  | _ i ih =>
    intro hi k hk
    rw [List.getD_eq_getElem?_getD] at hk
    cases hS : (clos ops.toList)[i]? with
    | none => rw [hS] at hk; simp at hk
    | some S =>
      rw [hS] at hk
      obtain ⟨o, e, q1, q2, q3, q4⟩ := (clos_spec ops.toList).2 i S hS k (by simpa using hk)
      simp only [Array.getElem?_toList] at q1
      have hlt := hs.edges i o e q1 q2 q3
      have hle := hc i o e q1 hi q2 q3
      rcases q4 with rfl | ⟨S', q5, q6⟩
      · exact hle
      · exact ih e.on hlt hle k (by rw [List.getD_eq_getElem?_getD, q5]; exact q6)
theorem clos_ready (hs : Stat ops ups) {listed : Array Bool} (hc : ∀ (i : Nat) (o : Oper) (e : Edge), ops[i]? = some o → listed.getD i false = true → e ∈ o.after.toList → Region.binds .any e = true → listed.getD e.on false = true)
    {i : Nat} (hr : ∀ (o : Oper) (e : Edge), ops[i]? = some o → e ∈ o.after.toList → Region.binds .any e = true → listed.getD e.on false = true) : ∀ k ∈ (clos ops.toList).getD i [], listed.getD k false = true := by
  intro k hk
  rw [List.getD_eq_getElem?_getD] at hk
  cases hS : (clos ops.toList)[i]? with
  | none => rw [hS] at hk; simp at hk
  | some S =>
    rw [hS] at hk
    obtain ⟨o, e, q1, q2, q3, q4⟩ := (clos_spec ops.toList).2 i S hS k (by simpa using hk)
    simp only [Array.getElem?_toList] at q1
    have hle := hr o e q1 q2 q3
    rcases q4 with rfl | ⟨S', q5, q6⟩
    · exact hle
    · exact clos_listed hs hc e.on hle k (by rw [List.getD_eq_getElem?_getD, q5]; exact q6)

variable {tT : Nat → Nat → AV} {tH : Nat → List Blk} {tv : Nat → AV} {tf : Nat → Foot}

/-- The run in the order of the text. -/
structure TRun (P : Program) (tab : TypeId → Option TI) (N : Nat) (ops : Array Oper) (ups : List (Nat × Nat)) (tT : Nat → Nat → AV) (tH : Nat → List Blk) (tv : Nat → AV) (tf : Nat → Foot) : Prop where
  tok : TabOk P tab
  fit : fitOps N ops.toList = true
  stat : Stat ops ups
  cert : ∀ k o, ops[k]? = some o → Cert P tab (ops.toList.map (·.dst)) o (tT k) (tH k) (tv k) (tH (k + 1)) (tf k)
  nxt : ∀ k o, ops[k]? = some o → tT (k + 1) = putD (tT k) o.dst (tv k)
  ups : ∀ i j, (i, j) ∈ ups → i < ops.size ∧ j < ops.size → apartF (tf i) (tf j)

theorem TRun.opfit (R : TRun P tab N ops ups tT tH tv tf) {k : Nat} {o : Oper} (ho : ops[k]? = some o) : opFit N o.op = true ∧ ∀ s, o.dst = some s → s < N := by
  have := List.all_eq_true.1 R.fit o (by rw [← Array.getElem?_toList] at ho; exact List.mem_of_getElem? ho)
  simp only [Bool.and_eq_true] at this
  exact ⟨this.1, fun s e => by have h := this.2; rw [e] at h; simpa using h⟩
theorem TRun.len (R : TRun P tab N ops ups tT tH tv tf) {k : Nat} {o : Oper} (ho : ops[k]? = some o) : (tH k).length ≤ (tH (k + 1)).length := by
  have h := R.cert k o ho
  unfold Cert at h
  split at h
  · exact certU_len h
  · obtain ⟨s, t, x, _, _, _, e, _⟩ := h; rw [e]; exact Nat.le_refl _
theorem TRun.same (R : TRun P tab N ops ups tT tH tv tf) {k : Nat} {o : Oper} (ho : ops[k]? = some o) {i : Nat} (hi : i < (tH k).length) (hw : i ∉ (tf k).wr) : (tH (k + 1))[i]? = (tH k)[i]? := by
  have h := R.cert k o ho
  unfold Cert at h
  split at h
  · exact certU_same h i hi hw
  · obtain ⟨s, t, x, _, _, _, e, _⟩ := h; rw [e]
theorem TRun.wr (R : TRun P tab N ops ups tT tH tv tf) {k : Nat} {o : Oper} (ho : ops[k]? = some o) {i : Nat} (hw : i ∈ (tf k).wr) : isWr o.op = true := by
  have h := R.cert k o ho
  unfold Cert at h
  split at h
  · cases hq : isWr o.op with
    | true => rfl
    | false => rw [(certU_kind h).1 hq] at hw; cases hw
  · obtain ⟨s, t, x, _, _, _, _, e, _⟩ := h; rw [e] at hw; cases hw
theorem TRun.lenle (R : TRun P tab N ops ups tT tH tv tf) {k t : Nat} (hk : k ≤ t) (ht : t ≤ ops.size) : (tH k).length ≤ (tH t).length := by
  induction hk with
  | refl => exact Nat.le_refl _
  | @step t hk ih => exact Nat.le_trans (ih (by omega)) (R.len (Array.getElem?_eq_getElem (by omega)))
theorem TRun.chain (R : TRun P tab N ops ups tT tH tv tf) {k t i : Nat} (hk : k ≤ t) (ht : t ≤ ops.size) (hi : i < (tH k).length) (hw : ∀ j, k ≤ j → j < t → i ∉ (tf j).wr) : (tH t)[i]? = (tH k)[i]? := by
  induction hk with
  | refl => rfl
  | @step t hk ih =>
    rw [R.same (Array.getElem?_eq_getElem (by omega)) (Nat.lt_of_lt_of_le hi (R.lenle hk (by omega))) (hw t hk (by omega))]
    exact ih (by omega) fun j h1 h2 => hw j h1 (by omega)

/-- A slot in the text's order: written once, or as it was. -/
theorem TRun.slot (R : TRun P tab N ops ups tT tH tv tf) (s : Nat) : ∀ (k : Nat), k ≤ ops.size → (∃ j o, j < k ∧ ops[j]? = some o ∧ o.dst = some s ∧ tT k s = tv j) ∨ ((∀ j o, j < k → ops[j]? = some o → o.dst ≠ some s) ∧ tT k s = tT 0 s)
  | 0, _ => .inr ⟨fun j o h => by omega, rfl⟩
  | k + 1, hk => by
    have ho : ops[k]? = some ops[k] := Array.getElem?_eq_getElem (by omega)
    rw [R.nxt k _ ho]
    cases hd : ops[k].dst with
    | none =>
      simp only [putD]
      rcases R.slot s k (by omega) with ⟨j, o, h1, h2, h3, h4⟩ | ⟨h1, h2⟩
      · exact .inl ⟨j, o, by omega, h2, h3, h4⟩
      · refine .inr ⟨fun j o hj hoj => ?_, h2⟩
        by_cases hjk : j = k
        · subst hjk; rw [ho] at hoj; cases hoj; rw [hd]; simp
        · exact h1 j o (by omega) hoj
    | some d =>
      simp only [putD, upd]
      by_cases hs : s = d
      · subst hs; rw [if_pos rfl]; exact .inl ⟨k, _, by omega, ho, hd, rfl⟩
      · rw [if_neg hs]
        rcases R.slot s k (by omega) with ⟨j, o, h1, h2, h3, h4⟩ | ⟨h1, h2⟩
        · exact .inl ⟨j, o, by omega, h2, h3, h4⟩
        · refine .inr ⟨fun j o hj hoj => ?_, h2⟩
          by_cases hjk : j = k
          · subst hjk; rw [ho] at hoj; cases hoj; rw [hd]; simp; exact fun h => hs h.symm
          · exact h1 j o (by omega) hoj

/-- Worlds of the text's order. -/
theorem TRun.worlds (R : TRun P tab N ops ups tT tH tv tf) {ρs : Map} {as : Act} {ws : World} (hs : Slots ρs N (tT 0) as) (hr : Rel ρs (tH 0) ws) : ∀ k, k ≤ ops.size →
    ∃ ρt at_ wt, Slots ρt N (tT k) at_ ∧ Rel ρt (tH k) wt ∧ ∀ i, i < (tH 0).length → ρt i = ρs i
  | 0, _ => ⟨ρs, as, ws, hs, hr, fun _ _ => rfl⟩
  | k + 1, hk => by
    obtain ⟨ρt, at_, wt, h1, h2, h3⟩ := R.worlds hs hr k (by omega)
    have ho : ops[k]? = some ops[k] := Array.getElem?_eq_getElem (by omega)
    obtain ⟨f1, f2⟩ := R.opfit ho
    have hc := R.cert k _ ho
    have hle := R.lenle (k := 0) (t := k) (by omega) (by omega)
    rw [R.nxt k _ ho]
    unfold Cert at hc
    split at hc
    · obtain ⟨u, ρ', w', q1, q2, q3⟩ := certU_exists R.tok hc f1 h1 h2
      exact ⟨ρ', at_.put _ u, w', slots_put h1 (q3.le h2) f2 q1, q2, fun i hi => by rw [q3.ext i (by omega)]; exact h3 i hi⟩
    · rename_i j want hg0
      obtain ⟨s, t, x, _, _, e1, e2, _, e3⟩ := hc
      by_cases hg : ((tT k s).gd && (t == want)) = true
      · obtain ⟨u, ρ', w', q1, q2, q3⟩ := certU_exists R.tok (e3 hg) f1 h1 h2
        exact ⟨ρ', at_.put _ u, w', slots_put h1 (q3.le h2) f2 (by rw [e1]; exact ⟨fun _ => q1, fun h' => absurd hg (by rw [h']; exact Bool.false_ne_true)⟩), by rw [e2]; exact q2, fun i hi => by rw [q3.ext i (by omega)]; exact h3 i hi⟩
      · exact ⟨ρt, at_.put _ undef, wt, slots_put h1 (Map.le_refl _) f2 (by rw [e1]; exact ⟨fun h => absurd h hg, fun _ => rfl⟩), by rw [e2]; exact h2, h3⟩

/-- Who meets an operation on a block stands in order with it. -/
theorem TRun.ordered (R : TRun P tab N ops ups tT tH tv tf) {k j : Nat} {o p : Oper} (ho : ops[k]? = some o) (hp : ops[j]? = some p) (hne : j ≠ k) {i : Nat} {f : Foot} (hf : f = tf k) (hkind : (isWr o.op = false → f.wr = []) ∧ (isWr o.op = false → isRd o.op = false → f.rd = some []))
    (hi : f.rd = none ∨ (∃ l, f.rd = some l ∧ i ∈ l) ∨ i ∈ f.wr) (hw : i ∈ (tf j).wr) : (j < k ∧ j ∈ (clos ops.toList).getD k []) ∨ (k < j ∧ k ∈ (clos ops.toList).getD j []) := by
  have hwp := R.wr hp hw
  have npure : ¬ (isWr o.op = false ∧ isRd o.op = false) := by
    rintro ⟨h1, h2⟩
    have e1 := hkind.1 h1
    have e2 := hkind.2 h1 h2
    rcases hi with h | ⟨l, h, hl⟩ | h
    · rw [e2] at h; cases h
    · rw [e2] at h; cases h; cases hl
    · rw [e1] at h; cases h
  have hjs : j < ops.size := (Array.getElem?_eq_some_iff.1 hp).1
  have hks : k < ops.size := (Array.getElem?_eq_some_iff.1 ho).1
  rcases Nat.lt_or_ge j k with hlt | hge
  · rcases R.stat.conf j k p o hp ho hlt with h | h | h | h | h
    · exact .inl ⟨hlt, h⟩
    · rw [hwp] at h; cases h.1
    · rw [hwp] at h; cases h.1
    · exact absurd h npure
    · exfalso
      have ha := R.ups j k h ⟨hjs, hks⟩
      rw [← hf] at ha
      obtain ⟨q1, q2⟩ := ha.1 i hw
      rcases hi with e | ⟨l, e, hl⟩ | e
      · rw [e] at q2; exact q2
      · rw [e] at q2; exact q2 hl
      · exact q1 e
  · have hlt : k < j := by omega
    rcases R.stat.conf k j o p ho hp hlt with h | h | h | h | h
    · exact .inr ⟨hlt, h⟩
    · rw [hwp] at h; cases h.2
    · exact absurd h npure
    · rw [hwp] at h; cases h.1
    · exfalso
      have ha := R.ups k j h ⟨hks, hjs⟩
      rw [← hf] at ha
      rcases hi with e | ⟨l, e, hl⟩ | e
      · have := ha.2 i hw; rw [e] at this; exact this
      · have := ha.2 i hw; rw [e] at this; exact this hl
      · exact (ha.1 i e).1 hw
end
end Go.Proofs.Ytjjhogleiolngaa
