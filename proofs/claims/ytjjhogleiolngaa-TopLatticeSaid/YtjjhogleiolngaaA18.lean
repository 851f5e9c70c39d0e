/- The abstract machine: regions whose order is drawn, last part: the law. No program stands here. -/
import Derived.Test.YtjjhogleiolngaaA17
namespace Go.Proofs.Ytjjhogleiolngaa
open Go.RowKit

section
variable {P : Program} {tab : TypeId → Option TI} {N : Nat} {ops : Array Oper} {ups : List (Nat × Nat)} {tT : Nat → Nat → AV} {tH : Nat → List Blk} {tv : Nat → AV} {tf : Nat → Foot}
  {ρ0 : Map} {H0 : List Blk} {w0 : World} {ρs : Map}

/-- Some operations have been carried out, in whatever order. -/
structure DInv (ops : Array Oper) (N : Nat) (tT : Nat → Nat → AV) (tH : Nat → List Blk) (tv : Nat → AV) (tf : Nat → Foot) (ρ0 : Map) (H0 : List Blk) (w0 : World) (ρs : Map) (listed : Array Bool) (a : Act) (w : World) (ρ : Map) (F : List Blk) : Prop where
  size : listed.size = ops.size
  cl : ∀ (i : Nat) (o : Oper) (e : Edge), ops[i]? = some o → listed.getD i false = true → e ∈ o.after.toList → Region.binds .any e = true → listed.getD e.on false = true
  dfr : a.defers = []
  asz : a.tmps.size = N
  rel : Rel ρ F w
  flen : F.length = (tH ops.size).length
  stp : Stp H0.length ρ0 H0 w0 ρ F w
  start : ∀ i, i < (tH 0).length → ρ i = ρs i
  new : ∀ k, k < ops.size → listed.getD k false = false → ∀ i, (tH k).length ≤ i → i < (tH (k + 1)).length → ρ i = none
  agr : ∀ i L, ρ i = some L → ∀ t, t ≤ ops.size → i < (tH t).length → (∀ k, k < t → i ∈ (tf k).wr → listed.getD k false = true) → (∀ k, t ≤ k → k < ops.size → i ∈ (tf k).wr → listed.getD k false = false) → F[i]? = (tH t)[i]?
  wrm : ∀ k, k < ops.size → listed.getD k false = true → ∀ i ∈ (tf k).wr, (ρ i).isSome = true
  done : ∀ s, s < N → ∀ k o, ops[k]? = some o → listed.getD k false = true → o.dst = some s → relV ρ (tv k) (a.tmps.getD s undef)
  rest : ∀ s, s < N → (∀ k o, ops[k]? = some o → listed.getD k false = true → o.dst ≠ some s) → relV ρ (tT 0 s) (a.tmps.getD s undef)

theorem getD_set {listed : Array Bool} {k i : Nat} (hk : k < listed.size) : (listed.setIfInBounds k true).getD i false = if i = k then true else listed.getD i false := by
  rw [Array.getD_eq_getD_getElem?, Array.getD_eq_getD_getElem?, Array.getElem?_setIfInBounds]
  by_cases h : k = i
  · subst h; simp [hk]
  · rw [if_neg h, if_neg (fun e => h e.symm)]

/-- What an operation that is ready looks at stands for what it stood for in the text's order. -/
theorem DInv.look (R : TRun P tab N ops ups tT tH tv tf) {listed : Array Bool} {a : Act} {w : World} {ρ : Map} {F : List Blk} (D : DInv ops N tT tH tv tf ρ0 H0 w0 ρs listed a w ρ F) {k : Nat} {o : Oper} (ho : ops[k]? = some o) (hk : listed.getD k false = false)
    (hr : ∀ (o : Oper) (e : Edge), ops[k]? = some o → e ∈ o.after.toList → Region.binds .any e = true → listed.getD e.on false = true) {s : Nat} (hs : s ∈ o.looksAt ops) (hN : s < N) : relV ρ (tT k s) (a.tmps.getD s undef) := by
  have hks : k < ops.size := (Array.getElem?_eq_some_iff.1 ho).1
  rcases R.slot s k (by omega) with ⟨j, p, h1, h2, h3, h4⟩ | ⟨h1, h2⟩
  · rw [h4]
    rcases R.stat.rw_ k j o p s ho hs h2 h3 with ⟨_, h⟩ | ⟨h, _⟩
    · exact D.done s hN j p h2 (clos_ready R.stat D.cl hr j h) h3
    · omega
  · rw [h2]
    refine D.rest s hN fun j p hp hl e => ?_
    rcases R.stat.rw_ k j o p s ho hs hp e with ⟨hlt, _⟩ | ⟨hlt, h⟩
    · exact h1 j p hlt hp e
    · have := clos_listed R.stat D.cl j hl k h
      rw [hk] at this; cases this

/-- An operation is done: what holds behind it. -/
theorem DInv.next (R : TRun P tab N ops ups tT tH tv tf) {listed : Array Bool} {a : Act} {w : World} {ρ : Map} {F : List Blk} (D : DInv ops N tT tH tv tf ρ0 H0 w0 ρs listed a w ρ F) {k : Nat} {o : Oper} (ho : ops[k]? = some o) (hk : listed.getD k false = false)
    (hr : ∀ (o : Oper) (e : Edge), ops[k]? = some o → e ∈ o.after.toList → Region.binds .any e = true → listed.getD e.on false = true)
    {u : Value} {w' : World} {ρ2 : Map} {F2 : List Blk} (hle : ρ.le ρ2) (hv : relV ρ2 (tv k) u) (h1 : Rel ρ2 F2 w') (h2 : Stp H0.length ρ F w ρ2 F2 w') (hl : F2.length = F.length)
    (hρ : ∀ i, ¬ ((tH k).length ≤ i ∧ i < (tH (k + 1)).length) → ρ2 i = ρ i) (hF : ∀ i, F2[i]? = if i ∈ (tf k).wr ∨ ((tH k).length ≤ i ∧ i < (tH (k + 1)).length) then (tH (k + 1))[i]? else F[i]?)
    (hwm : ∀ i ∈ (tf k).wr, (ρ2 i).isSome = true ∧ i < (tH k).length) (hkind : (isWr o.op = false → (tf k).wr = [])) :
    DInv ops N tT tH tv tf ρ0 H0 w0 ρs (listed.setIfInBounds k true) (a.put o.dst u) w' ρ2 F2 := by
  have hks : k < ops.size := (Array.getElem?_eq_some_iff.1 ho).1
  have hkl : k < listed.size := by rw [D.size]; exact hks
  have G : ∀ i, (listed.setIfInBounds k true).getD i false = if i = k then true else listed.getD i false := fun i => getD_set hkl
  obtain ⟨_, hdN⟩ := R.opfit ho
  -- no one that writes block i stands between k and t, all being listed
  have between : ∀ (i t : Nat), (i ∈ (tf k).wr ∨ ((tH k).length ≤ i ∧ i < (tH (k + 1)).length)) → t ≤ ops.size → (∀ j, j < t → i ∈ (tf j).wr → (listed.setIfInBounds k true).getD j false = true) → ∀ j, k + 1 ≤ j → j < t → i ∉ (tf j).wr := by
    intro i t hi ht hall j hj hjt hw
    have hlj := hall j hjt hw
    rw [G, if_neg (by omega)] at hlj
    have hp : ops[j]? = some ops[j] := Array.getElem?_eq_getElem (by omega)
    rcases hi with hi | ⟨hi1, hi2⟩
    · rcases R.ordered (k := k) (j := j) ho hp (by omega) (i := i) (f := tf k) rfl ⟨hkind, fun h _ => by rw [hkind h] at hi; cases hi⟩ (.inr (.inr hi)) hw with ⟨h, _⟩ | ⟨_, h⟩
      · omega
      · have := clos_listed R.stat D.cl j hlj k h
        rw [hk] at this; cases this
    · have := D.wrm j (by omega) hlj i hw
      rw [D.new k hks hk i hi1 hi2] at this; cases this
  refine ⟨by simp [D.size], fun i p e hp hi he hb => ?_, by rw [put_defers]; exact D.dfr, ?_, h1, by rw [hl]; exact D.flen, D.stp.trans h2, fun i hi => ?_, fun j hj hlj i hi1 hi2 => ?_, fun i L hL t ht hit hall hnone => ?_, fun j hj hlj i hi => ?_, fun s hs j p hp hlj hd => ?_, fun s hs hnone => ?_⟩
  · rw [G] at hi ⊢
    split
    · rfl
    · split at hi
      · rename_i h; subst h; exact hr p e hp he hb
      · exact D.cl i p e hp hi he hb
  · cases o.dst <;> simp [Act.put, D.asz]
  · rw [hρ i (by have := R.lenle (k := 0) (t := k) (by omega) (by omega); omega)]; exact D.start i hi
  · rw [G] at hlj
    split at hlj
    · cases hlj
    · rename_i hjk
      have hdis : ¬ ((tH k).length ≤ i ∧ i < (tH (k + 1)).length) := by
        rcases Nat.lt_or_ge j k with h | h
        · have := R.lenle (k := j + 1) (t := k) (by omega) (by omega); omega
        · have := R.lenle (k := k + 1) (t := j) (by omega) (by omega); omega
      rw [hρ i hdis]
      exact D.new j hj hlj i hi1 hi2
  · -- agreement
    rw [hF i]
    by_cases hi : i ∈ (tf k).wr ∨ ((tH k).length ≤ i ∧ i < (tH (k + 1)).length)
    · rw [if_pos hi]
      have hkt : k + 1 ≤ t := by
        rcases hi with hi | ⟨hi1, _⟩
        · apply Decidable.byContradiction
          intro hc
          have := hnone k (by omega) hks hi
          rw [G, if_pos rfl] at this; cases this
        · apply Decidable.byContradiction
          intro hc
          have := R.lenle (k := t) (t := k) (by omega) (by omega)
          omega
      have hik : i < (tH (k + 1)).length := by
        rcases hi with hi | ⟨_, h⟩
        · exact Nat.lt_of_lt_of_le (hwm i hi).2 (R.len ho)
        · exact h
      exact (R.chain hkt ht hik fun j q1 q2 => between i t hi ht hall j q1 q2).symm
    · rw [if_neg hi]
      have hin : ¬ ((tH k).length ≤ i ∧ i < (tH (k + 1)).length) := fun h => hi (.inr h)
      have hiw : i ∉ (tf k).wr := fun h => hi (.inl h)
      rw [hρ i hin] at hL
      refine D.agr i L hL t ht hit (fun j hj hw => ?_) fun j hj hjs hw => ?_
      · have := hall j hj hw
        rw [G] at this
        split at this
        · rename_i h; subst h; exact absurd hw hiw
        · exact this
      · have := hnone j hj hjs hw
        rw [G] at this
        split at this
        · cases this
        · exact this
  · rw [G] at hlj
    split at hlj
    · rename_i h; subst h; exact (hwm i hi).1
    · obtain ⟨L, hL⟩ := Option.isSome_iff_exists.1 (D.wrm j hj hlj i hi)
      rw [hle i L hL]; rfl
  · rw [G] at hlj
    split at hlj
    · rename_i h; subst h
      rw [ho] at hp; cases hp
      have : (a.put o.dst u).tmps.getD s undef = u := by
        rw [hd]
        simp only [Act.put]
        rw [Array.getD_eq_getD_getElem?, Array.getElem?_setIfInBounds, if_pos rfl, if_pos (by rw [D.asz]; exact hs)]; rfl
      rw [this]; exact hv
    · rename_i hjk
      have hne : o.dst ≠ some s := fun e => hjk (R.stat.dst j k p o s hp ho hd e)
      have : (a.put o.dst u).tmps.getD s undef = a.tmps.getD s undef := by
        cases hod : o.dst with
        | none => rfl
        | some d =>
          simp only [Act.put]
          rw [Array.getD_eq_getD_getElem?, Array.getD_eq_getD_getElem?, Array.getElem?_setIfInBounds, if_neg (fun h => hne (by rw [hod, h]))]
      rw [this]
      exact relV_le hle (D.done s hs j p hp hlj hd)
  · have hne : o.dst ≠ some s := hnone k o ho (by rw [G, if_pos rfl])
    have : (a.put o.dst u).tmps.getD s undef = a.tmps.getD s undef := by
      cases hod : o.dst with
      | none => rfl
      | some d =>
        simp only [Act.put]
        rw [Array.getD_eq_getD_getElem?, Array.getD_eq_getD_getElem?, Array.getElem?_setIfInBounds, if_neg (fun h => hne (by rw [hod, h]))]
    rw [this]
    refine relV_le hle (D.rest s hs fun j p hp hlj => hnone j p hp ?_)
    rw [G]
    split
    · rfl
    · exact hlj

/-- One more operation, whichever is ready. -/
theorem DInv.step (R : TRun P tab N ops ups tT tH tv tf) {as : Act} {ws : World} (hss : Slots ρs N (tT 0) as) (hrs : Rel ρs (tH 0) ws) (hH0 : H0.length ≤ (tH 0).length) {listed : Array Bool} {a : Act} {w : World} {ρ : Map} {F : List Blk}
    (D : DInv ops N tT tH tv tf ρ0 H0 w0 ρs listed a w ρ F) {k : Nat} {o : Oper} (ho : ops[k]? = some o) (hk : listed.getD k false = false)
    (hr : ∀ (o : Oper) (e : Edge), ops[k]? = some o → e ∈ o.after.toList → Region.binds .any e = true → listed.getD e.on false = true)
    {K : Act → World → Prop} {Q : Exit → Act → World → Prop} (hK : ∀ a' w' ρ' F', DInv ops N tT tH tv tf ρ0 H0 w0 ρs (listed.setIfInBounds k true) a' w' ρ' F' → K a' w') : wpOp P ops Q k K a w := by
  have hks : k < ops.size := (Array.getElem?_eq_some_iff.1 ho).1
  obtain ⟨f1, f2⟩ := R.opfit ho
  obtain ⟨ρt, at_, wt, t1, t2, t3⟩ := R.worlds hss hrs k (by omega)
  have hH0k : H0.length ≤ (tH k).length := Nat.le_trans hH0 (R.lenle (k := 0) (t := k) (by omega) (by omega))
  have opnd : ∀ t, .tmp t ∈ o.op.operands.toList → t < N := fun t h => by
    have := List.all_eq_true.1 f1 _ h
    simpa [Operand.fit] using this
  have looks : ∀ t, .tmp t ∈ o.op.operands.toList → t ∈ o.looksAt ops := fun t h => by
    simp only [Oper.looksAt, List.mem_append, List.mem_filterMap]
    exact .inl ⟨_, h, rfl⟩
  -- the operation itself
  have run : ∀ {v : AV}, CertU P tab (tT k) (tH k) o.op v (tH (k + 1)) (tf k) → (∀ ρ' u, relV ρ' v u → relV ρ' (tv k) u) → o.wp P a w K Q := by
    intro v hc hvv
    have hkind := certU_kind hc
    have hag : ∀ i L, ρ i = some L → (ρt i).isSome = true → keepF (tH k) (tf k) i = false → F[i]? = (tH k)[i]? := by
      intro i L hL hti hki
      obtain ⟨M, hM⟩ := Option.isSome_iff_exists.1 hti
      have hlt := t2.dom i M hM
      have hfoot : (tf k).rd = none ∨ (∃ l, (tf k).rd = some l ∧ i ∈ l) ∨ i ∈ (tf k).wr := by
        unfold keepF at hki
        split at hki
        · rename_i h; exact .inl h
        · rename_i l h
          simp only [hlt, decide_true, Bool.true_and, Bool.not_eq_false', List.contains_iff_mem, List.mem_append] at hki
          rcases hki with h' | h'
          · exact .inr (.inl ⟨l, h, h'⟩)
          · exact .inr (.inr h')
      refine D.agr i L hL k (by omega) hlt (fun j hj hw => ?_) fun j hj hjs hw => ?_
      · have hp : ops[j]? = some ops[j] := Array.getElem?_eq_getElem (by omega)
        rcases R.ordered ho hp (by omega) rfl hkind hfoot hw with ⟨_, h⟩ | ⟨h, _⟩
        · exact clos_ready R.stat D.cl hr j h
        · omega
      · by_cases hjk : j = k
        · subst hjk; exact hk
        · have hp : ops[j]? = some ops[j] := Array.getElem?_eq_getElem (by omega)
          rcases R.ordered ho hp hjk rfl hkind hfoot hw with ⟨h, _⟩ | ⟨_, h⟩
          · omega
          · cases hlj : listed.getD j false with
            | false => rfl
            | true =>
              have := clos_listed R.stat D.cl j hlj k h
              rw [hk] at this; cases this
    have hpart := part_rel t2 D.rel (keepF (tH k) (tf k)) hag
    have hsl : ∀ t, .tmp t ∈ o.op.operands.toList → relV (restr ρt ρ) (tT k t) (a.tmps.getD t undef) := fun t h =>
      relV_restr (D.look R ho hk hr (looks t h) (opnd t h)) (t1.2 t (opnd t h))
    have hmap : ∀ (σ : Map) (b : Act), (∀ t, .tmp t ∈ o.op.operands.toList → relV σ (tT k t) (b.tmps.getD t undef)) → ∀ i ∈ (tf k).wr, (σ i).isSome = true := fun σ b hb =>
      certU_mapped (a := b) hc fun x hx hg => by
        have hms := mask_slots (N := N) (l := o.op.operands.toList) (T := tT k) (a := { b with tmps := (b.tmps ++ Array.replicate N undef).extract 0 N }) (by simp; omega) (fun t ht => by
          have := hb t ht
          have e : ((b.tmps ++ Array.replicate N undef).extract 0 N).getD t undef = b.tmps.getD t undef := by
            have htN := opnd t ht
            rw [Array.getD_eq_getD_getElem?, Array.getD_eq_getD_getElem?, Array.getElem?_extract, if_pos (by simp; omega)]
            by_cases h : t < b.tmps.size
            · rw [Nat.zero_add, Array.getElem?_append_left h]
            · rw [Nat.zero_add, Array.getElem?_append_right (by omega), Array.getElem?_eq_none (xs := b.tmps) (by omega), Array.getElem?_replicate]
              split <;> rfl
          rw [e]; exact this)
        cases x with
        | tmp t =>
          have := hb t hx
          exact relC_of_V this hg
        | const v => have := ev_rel (x := .const v) hms rfl; exact relC_of_V this hg
        | func f => have := ev_rel (x := .func f) hms rfl; exact relC_of_V this hg
        | global g => exact trivial
    have hWt : ∀ i ∈ (tf k).wr, (ρt i).isSome = true := hmap ρt at_ fun t h => t1.2 t (opnd t h)
    have hWr : ∀ i ∈ (tf k).wr, (ρ i).isSome = true := hmap ρ a fun t h => D.look R ho hk hr (looks t h) (opnd t h)
    have hWlt : ∀ i ∈ (tf k).wr, i < (tH k).length := fun i hi => by
      obtain ⟨M, hM⟩ := Option.isSome_iff_exists.1 (hWt i hi)
      exact t2.dom i M hM
    refine certU_does R.tok hc f1 D.asz hsl hpart K Q ?_
    rintro u w' ⟨ρ', q1, q2, q3⟩
    have hFl : (tH (k + 1)).length ≤ F.length := by rw [D.flen]; exact R.lenle (by omega) (Nat.le_refl _)
    have hF2 : ∀ i, (F.mapIdx fun i b => if i ∈ (tf k).wr ∨ ((tH k).length ≤ i ∧ i < (tH (k + 1)).length) then (tH (k + 1))[i]?.getD .dead else b)[i]? = if i ∈ (tf k).wr ∨ ((tH k).length ≤ i ∧ i < (tH (k + 1)).length) then (tH (k + 1))[i]? else F[i]? := by
      intro i
      rw [List.getElem?_mapIdx]
      by_cases hi : i ∈ (tf k).wr ∨ ((tH k).length ≤ i ∧ i < (tH (k + 1)).length)
      · rw [if_pos hi]
        have hik : i < (tH (k + 1)).length := by
          rcases hi with h | h
          · exact Nat.lt_of_lt_of_le (hWlt i h) (R.len ho)
          · exact h.2
        rw [List.getElem?_eq_getElem (show i < F.length by omega), List.getElem?_eq_getElem hik]
        simp [hi]
      · rw [if_neg hi]
        cases F[i]? <;> simp [hi]
    obtain ⟨r1, r2, r3⟩ := part_step t2 D.rel (keepF (tH k) (tf k)) hag (fun i hi => by
        unfold keepF
        split
        · rfl
        · simp; omega) hFl (tf k).wr (fun i hi hw => R.same ho hi hw) (fun i hi => ⟨by
          unfold keepF
          split
          · rfl
          · simp [hi], hWt i hi⟩) (fun i h1 h2 => D.new k hks hk i h1 h2) (certU_new hc) (certU_wo hc) q2 q3 _ rfl _ (by simp) hF2 H0.length hH0k
    have hle2 : ρ.le (fun i => if (tH k).length ≤ i ∧ i < (tH (k + 1)).length then ρ' i else ρ i) := fun i L e => by
      simp only
      split
      · rename_i h; rw [D.new k hks hk i h.1 h.2] at e; cases e
      · exact e
    refine hK _ _ _ _ (D.next R ho hk hr hle2 (hvv _ _ (relV_le r1 q1)) r2 r3 (by simp) (fun i hi => if_neg hi) hF2 (fun i hi => ⟨?_, hWlt i hi⟩) hkind.1)
    obtain ⟨L, hL⟩ := Option.isSome_iff_exists.1 (hWr i hi)
    have h2 : (if (tH k).length ≤ i ∧ i < (tH (k + 1)).length then ρ' i else ρ i) = some L := hle2 i L hL
    rw [h2]; rfl
  have hc := R.cert k o ho
  unfold wpOp
  rw [ho]
  simp only
  unfold Cert at hc
  split at hc
  · rename_i hg
    rw [if_pos (by simp [Region.wanted, hg])]
    exact .inl (run hc fun _ _ h => h)
  · rename_i j want hg
    obtain ⟨s, t, x, hds, hb, e1, e2, e3, e4⟩ := hc
    simp only [List.getElem?_map, Option.map_eq_some_iff, Array.getElem?_toList] at hds
    obtain ⟨oj, hoj, hdj⟩ := hds
    have hsN : s < N := (R.opfit hoj).2 s hdj
    have hsl : s ∈ o.looksAt ops := by
      simp only [Oper.looksAt, hg, hoj, Option.bind_some, hdj, List.mem_append]
      exact .inr (by simp)
    have hsv := D.look R ho hk hr hsl hsN
    rw [wanted_v hg hoj hdj (by rw [D.asz]; exact hsN) hsv hb]
    by_cases hgt : ((tT k s).gd && (t == want)) = true
    · rw [if_pos hgt]
      have hc := e4 hgt
      rw [← e2] at hc
      refine .inl (run (v := .c x) ?_ fun _ _ h => by rw [e1]; exact ⟨fun _ => h, fun h' => absurd hgt (by rw [h']; exact Bool.false_ne_true)⟩)
      rw [← e2]; rw [e2] at hc; rw [e2]; exact hc
    · rw [if_neg hgt]
      have hF2 : ∀ i, F[i]? = if i ∈ (tf k).wr ∨ ((tH k).length ≤ i ∧ i < (tH (k + 1)).length) then (tH (k + 1))[i]? else F[i]? := fun i => by
        rw [if_neg]
        rw [e2, e3]
        rintro (h | h)
        · cases h
        · omega
      exact hK _ _ ρ F (D.next R ho hk hr (Map.le_refl _) (by rw [e1]; exact ⟨fun h => absurd h hgt, fun _ => rfl⟩) D.rel (Stp.refl _ _ _ _) rfl (fun _ _ => rfl) hF2 (fun i hi => by rw [e3] at hi; cases hi) (fun _ => e3))
end
end Go.Proofs.Ytjjhogleiolngaa
