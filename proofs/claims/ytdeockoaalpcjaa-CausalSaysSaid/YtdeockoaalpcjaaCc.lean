/- CausalSays: slices.Clone, IndexFunc, ContainsFunc, Equal, Delete, DeleteFunc over mails. -/
import Derived.Test.YtdeockoaalpcjaaCa
import Derived.Test.YtdeockoaalpcjaaS5
namespace Go.Proofs.Ytdeockoaalpcjaa
set_option linter.unusedSimpArgs false
set_option linter.unusedVariables false
open Go.RowKit
attribute [local irreducible] AWP ACalls Wk GcTo
attribute [local simp] tab3 ti3 tab4 ti4 tab88 ti88 tab84 ti84
theorem wk_gclS0 {N : Nat} {H0 : List Blk} {id : Nat} {b : Blk} {T : Nat → AV} {L : List Blk} {l : List (Nat × AV)} (hb : ∀ m, renB m b = b) (h : tlOkM (mStd H0.length [] (H0.length + L.length)) T l) : Wk N H0 T (H0.set id b ++ L) (tl l) (H0.set id b) := by
  have := wk_gclS (N := N) (id := id) (L' := []) [] hb ⟨rfl, List.nodup_nil, fun j b h => by simp at h⟩ h
  rwa [List.append_nil] at this
abbrev MSl (H : List Blk) (a : Sc) (xs : List Ma) : Prop := GSl 8 Ma.enc H a xs
theorem mlen (m : Ma) : m.enc.length = 8 := rfl
set_option maxRecDepth 100000 in
theorem cloneMail {H : List Blk} {a : Sc} {xs : List Ma} {Q : AV → List Blk → Prop} (ha : MSl H a xs) (hn : xs.length < 1000000)
    (q0 : ∀ b, xs = [] → (b = .nils ∨ b = .sle) → Q (.c (.sc b)) H) (q1 : ¬xs = [] → Q (.c (.sc (.sl H.length 0 8 xs.length xs.length))) (H ++ [.own (xs.flatMap Ma.enc)])) :
    ACalls Try.prog 118 [.sc a] H Q := by
  refine acalls_of tabOk Try.func118 (by kernel_rfl) rfl (by kernel_rfl) ?_
  rcases ha with ⟨rfl, rfl | rfl⟩ | ⟨id, off, cap, cs, rfl, h1, h2, h3, h4⟩
  · (repeat' (first | refine awp_seq ?_ | (refine awp_region tabOk ?_; simp) | (refine awp_if ?_; simp) | refine awp_block ?_ | refine And.intro ?_ ?_ | intro _ | (refine awp_skip ?_; simp) | (refine awp_ret ?_; simp) | (refine awp_exit ?_; simp)))
    exact ⟨_, _, GcTo.refl (by simp), q0 _ rfl (.inl rfl)⟩
  · (repeat' (first | refine awp_seq ?_ | (refine awp_region tabOk ?_; simp [maxLen]) | (refine awp_if ?_; simp [maxLen]) | refine awp_block ?_ | refine And.intro ?_ ?_ | intro _ | (refine awp_skip ?_; simp [maxLen]) | (refine awp_ret ?_; simp [maxLen]) | (refine awp_exit ?_; simp [maxLen])))
    exact ⟨_, _, GcTo.refl (by simp), q0 _ rfl (.inr rfl)⟩
  · by_cases h0 : xs = []
    · subst h0
      have h2' : off ≤ cs.length := by simpa using h2
      (repeat' (first | refine awp_seq ?_ | (refine awp_region tabOk ?_; simp [h3, h2', maxLen]) | (refine awp_if ?_; simp [h3, h2', maxLen]) | refine awp_block ?_ | refine And.intro ?_ ?_ | intro _ | (refine awp_skip ?_; simp [h3, h2', maxLen]) | (refine awp_ret ?_; simp [h3, h2', maxLen]) | (refine awp_exit ?_; simp [h3, h2', maxLen])))
      exact ⟨_, _, GcTo.refl (by simp), q0 _ rfl (.inr rfl)⟩
    · have hl : xs.length ≠ 0 := fun e => h0 (List.length_eq_zero_iff.1 e)
      (repeat' (first | refine awp_seq ?_ | (refine awp_region tabOk ?_; simp [h3, h2, h4, h0, maxLen]) | (refine awp_if ?_; simp [h3, h2, h4, h0, maxLen]) | refine awp_block ?_ | refine And.intro ?_ ?_ | intro _ | (refine awp_skip ?_; simp [h3, h2, h4, h0, maxLen]) | (refine awp_ret ?_; simp [h3, h2, h4, h0, maxLen]) | (refine awp_exit ?_; simp [h3, h2, h4, h0, maxLen])))
      all_goals first | omega | exact ⟨_, _, GcTo.refl (by simp), q1 h0⟩
set_option maxRecDepth 100000 in
theorem indexMail {H : List Blk} {a : Sc} {xs : List Ma} {f : FuncId} {caps : List (Nat × Nat)} {p : Ma → Bool} {Q : AV → List Blk → Prop} (ha : MSl H a xs) (hn : xs.length < 1000000)
    (hp : ∀ x ∈ xs, ∀ Q : AV → List Blk → Prop, Q (.c (.sc (.bool (p x)))) H → ACalls Try.prog f (.agg x.enc :: capsC caps) H Q)
    (h1 : (∀ x ∈ xs, p x = false) → Q (.c (.sc (.int .i64 (-1)))) H) (h2 : ∀ (i : Nat) (x : Ma), xs[i]? = some x → p x = true → (∀ y ∈ xs.take i, p y = false) → Q (.c (.sc (.int .i64 i))) H) :
    ACalls Try.prog 121 [.sc a, .sc (.fn f caps)] H Q := by
  refine acalls_of tabOk Try.func121 (by kernel_rfl) rfl (by kernel_rfl) ?_
  have la := ha.len (i := ⟨.slice 88, 1, 24, .sc .nils, none⟩) rfl
  (repeat' (first | refine awp_seq ?_ | (refine awp_region tabOk ?_; simp [-lenC, la]) | (refine awp_if ?_; simp [-lenC, la]) | refine awp_block ?_ | refine And.intro ?_ ?_ | intro _ | (refine awp_skip ?_; simp [-lenC, la]) | (refine awp_ret ?_; simp [-lenC, la]) | (refine awp_exit ?_; simp [-lenC, la])))
  refine awp_loop_at (α := {i : Nat // i ≤ xs.length ∧ ∀ y ∈ xs.take i, p y = false}) (fun i => [(0, .c (.sc a)), (1, .c (.sc (.fn f caps))), (7, .c (.sc (.int .i64 xs.length))), (8, .c (.sc (.int .i64 i.1)))]) (fun _ => H) (fun i => xs.length - i.1) ⟨0, by omega, by simp⟩ (wk_tl (by simp)) ?_
  rintro ⟨i, hi, he⟩
  by_cases hlt : i < xs.length
  · obtain ⟨x, hx⟩ : ∃ x, xs[i]? = some x := ⟨xs[i], List.getElem?_eq_getElem hlt⟩
    obtain ⟨id, off, cap, cs, rfl, hcap, hc, hrow⟩ := ha.at mlen hlt
    obtain ⟨r1, r2⟩ := hrow i x hx
    have wr := wrapS i (by omega)
    (repeat' (first | refine awp_seq ?_ | (refine awp_region tabOk ?_; simp [hlt, hc, r1, r2]) | (refine awp_if ?_; simp [hlt, hc, r1, r2]) | refine awp_block ?_ | refine And.intro ?_ ?_ | intro _ | (refine awp_skip ?_; simp [hlt, hc, r1, r2]) | (refine awp_ret ?_; simp [hlt, hc, r1, r2]) | (refine awp_exit ?_; simp [hlt, hc, r1, r2])))
    refine hp x (List.mem_of_getElem? hx) _ ?_
    cases hv : p x with
    | true =>
      ((try simp); (repeat' (first | refine awp_seq ?_ | (refine awp_region tabOk ?_; simp) | (refine awp_if ?_; simp) | refine awp_block ?_ | refine And.intro ?_ ?_ | intro _ | (refine awp_skip ?_; simp) | (refine awp_ret ?_; simp) | (refine awp_exit ?_; simp))))
      exact ⟨H, _, GcTo.refl (Nat.le_refl _), h2 i x hx hv he⟩
    | false =>
      ((try simp); (repeat' (first | refine awp_seq ?_ | (refine awp_region tabOk ?_; simp) | (refine awp_if ?_; simp) | refine awp_block ?_ | refine And.intro ?_ ?_ | intro _ | (refine awp_skip ?_; simp) | (refine awp_ret ?_; simp) | (refine awp_exit ?_; simp))))
      refine ⟨i + 1, by omega, ⟨by omega, fun y hy => ?_⟩, wk_tl (by simp [wr])⟩
      rw [take_snoc hx] at hy
      rcases List.mem_append.1 hy with h | h
      · exact he y h
      · simp at h; subst h; exact hv
  · obtain rfl : i = xs.length := by omega
    (repeat' (first | refine awp_seq ?_ | (refine awp_region tabOk ?_; simp) | (refine awp_if ?_; simp) | refine awp_block ?_ | refine And.intro ?_ ?_ | intro _ | (refine awp_skip ?_; simp) | (refine awp_ret ?_; simp) | (refine awp_exit ?_; simp)))
    exact ⟨H, _, GcTo.refl (Nat.le_refl _), h1 (by rwa [List.take_length] at he)⟩
theorem containsMail {H : List Blk} {a : Sc} {xs : List Ma} {f : FuncId} {caps : List (Nat × Nat)} {p : Ma → Bool} {Q : AV → List Blk → Prop} (ha : MSl H a xs) (hn : xs.length < 1000000)
    (hp : ∀ x ∈ xs, ∀ Q : AV → List Blk → Prop, Q (.c (.sc (.bool (p x)))) H → ACalls Try.prog f (.agg x.enc :: capsC caps) H Q) (q : Q (.c (.sc (.bool (xs.any p)))) H) :
    ACalls Try.prog 115 [.sc a, .sc (.fn f caps)] H Q := by
  refine acalls_of tabOk Try.func115 (by kernel_rfl) rfl (by kernel_rfl) ?_
  (repeat' (first | refine awp_seq ?_ | (refine awp_region tabOk ?_; simp) | (refine awp_if ?_; simp) | refine awp_block ?_ | refine And.intro ?_ ?_ | intro _ | (refine awp_skip ?_; simp) | (refine awp_ret ?_; simp) | (refine awp_exit ?_; simp)))
  refine indexMail ha hn hp (fun h => ?_) (fun i x hx h _ => ?_)
  · have e : xs.any p = false := by rw [List.any_eq_false]; intro x hx; rw [h x hx]; simp
    rw [e] at q
    ((try simp); (repeat' (first | refine awp_seq ?_ | (refine awp_region tabOk ?_; simp) | (refine awp_if ?_; simp) | refine awp_block ?_ | refine And.intro ?_ ?_ | intro _ | (refine awp_skip ?_; simp) | (refine awp_ret ?_; simp) | (refine awp_exit ?_; simp))))
    exact ⟨H, _, GcTo.refl (Nat.le_refl _), q⟩
  · have e : xs.any p = true := List.any_eq_true.2 ⟨x, List.mem_of_getElem? hx, h⟩
    rw [e] at q
    ((try simp); (repeat' (first | refine awp_seq ?_ | (refine awp_region tabOk ?_; simp) | (refine awp_if ?_; simp) | refine awp_block ?_ | refine And.intro ?_ ?_ | intro _ | (refine awp_skip ?_; simp) | (refine awp_ret ?_; simp) | (refine awp_exit ?_; simp))))
    exact ⟨H, _, GcTo.refl (Nat.le_refl _), q⟩
theorem Ma.eq_enc (m : Ma) : eqSs m.enc m.enc = true := by simp [Ma.enc, eqSs, eqS]
theorem Ma.ok_enc (m : Ma) : okSs [.int .i64, .int .i64, .int .i64, .int .i64, .int .i64, .int .i64, .int .i64, .str] m.enc = true := rfl
set_option maxRecDepth 100000 in
theorem equalMail {H : List Blk} {a b : Sc} {xs : List Ma} {Q : AV → List Blk → Prop} (ha : MSl H a xs) (hb : MSl H b xs) (hn : xs.length < 1000000) (q : Q (.c (.sc (.bool true))) H) :
    ACalls Try.prog 58 [.sc a, .sc b] H Q := by
  refine acalls_of tabOk Try.func58 (by kernel_rfl) rfl (by kernel_rfl) ?_
  have la := ha.len (i := ⟨.slice 88, 1, 24, .sc .nils, none⟩) rfl
  have lb := hb.len (i := ⟨.slice 88, 1, 24, .sc .nils, none⟩) rfl
  (repeat' (first | refine awp_seq ?_ | (refine awp_region tabOk ?_; simp [-lenC, la, lb]) | (refine awp_if ?_; simp [-lenC, la, lb]) | refine awp_block ?_ | refine And.intro ?_ ?_ | intro _ | (refine awp_skip ?_; simp [-lenC, la, lb]) | (refine awp_ret ?_; simp [-lenC, la, lb]) | (refine awp_exit ?_; simp [-lenC, la, lb])))
  refine awp_loop_at (α := {i : Nat // i ≤ xs.length}) (fun i => [(0, .c (.sc a)), (1, .c (.sc b)), (12, .c (.sc (.int .i64 xs.length))), (13, .c (.sc (.int .i64 i.1)))]) (fun _ => H) (fun i => xs.length - i.1) ⟨0, by omega⟩ (wk_tl (by simp)) ?_
  rintro ⟨i, hi⟩
  by_cases hlt : i < xs.length
  · obtain ⟨x, hx⟩ : ∃ x, xs[i]? = some x := ⟨xs[i], List.getElem?_eq_getElem hlt⟩
    obtain ⟨id, off, cap, cs, rfl, hcap, hc, hrow⟩ := ha.at mlen hlt
    obtain ⟨id', off', cap', cs', rfl, hcap', hc', hrow'⟩ := hb.at mlen hlt
    obtain ⟨r1, r2⟩ := hrow i x hx
    obtain ⟨r3, r4⟩ := hrow' i x hx
    have wr := wrapS i (by omega)
    (repeat' (first | refine awp_seq ?_ | (refine awp_region tabOk ?_; simp [hlt]) | (refine awp_if ?_; simp [hlt]) | refine awp_block ?_ | refine And.intro ?_ ?_ | intro _ | (refine awp_skip ?_; simp [hlt]) | (refine awp_ret ?_; simp [hlt]) | (refine awp_exit ?_; simp [hlt])))
    refine awp_draw tabOk mixed [] (by kernel_rfl) ?_
    simp [hlt, hc, hc', r1, r2, r3, r4, Ma.eq_enc, Ma.ok_enc]
    (repeat' (first | refine awp_seq ?_ | (refine awp_region tabOk ?_; simp) | (refine awp_if ?_; simp) | refine awp_block ?_ | refine And.intro ?_ ?_ | intro _ | (refine awp_skip ?_; simp) | (refine awp_ret ?_; simp) | (refine awp_exit ?_; simp)))
    exact ⟨i + 1, by omega, by omega, wk_tl (by simp [wr])⟩
  · obtain rfl : i = xs.length := by omega
    (repeat' (first | refine awp_seq ?_ | (refine awp_region tabOk ?_; simp) | (refine awp_if ?_; simp) | refine awp_block ?_ | refine And.intro ?_ ?_ | intro _ | (refine awp_skip ?_; simp) | (refine awp_ret ?_; simp) | (refine awp_exit ?_; simp)))
    exact ⟨H, _, GcTo.refl (Nat.le_refl _), q⟩
/-- What a removal leaves. -/
theorem del_cells {cs : List Sc} {off n1 k : Nat} {xs : List Ma} (hn : xs.length = n1 + 1) (h2 : off + (n1 + 1) * 8 ≤ cs.length) (h4 : (cs.drop off).take ((n1 + 1) * 8) = xs.flatMap Ma.enc) (hk : k ≤ n1) :
    ((splice (off + k * 8) ((cs.drop (off + (k + 1) * 8)).take ((n1 - k) * 8)) cs).drop off).take (n1 * 8) = (xs.eraseIdx k).flatMap Ma.enc := by
  have F : ∀ j, j < (n1 + 1) * 8 → (xs.flatMap Ma.enc)[j]? = cs[off + j]? := fun j hj => by
    rw [← h4, List.getElem?_take_of_lt hj, List.getElem?_drop]
  have e1 : (xs.eraseIdx k).flatMap Ma.enc = (xs.flatMap Ma.enc).take (k * 8) ++ (xs.flatMap Ma.enc).drop ((k + 1) * 8) := by
    rw [List.eraseIdx_eq_take_drop_succ, List.flatMap_append]
    have s1 : ∀ i, i ≤ xs.length → xs.flatMap Ma.enc = (xs.take i).flatMap Ma.enc ++ (xs.drop i).flatMap Ma.enc := fun i _ => by rw [← List.flatMap_append, List.take_append_drop]
    have l1 : ∀ i, i ≤ xs.length → ((xs.take i).flatMap Ma.enc).length = i * 8 := fun i hi => by rw [flat_len mlen, List.length_take, Nat.min_eq_left hi]
    congr 1
    · rw [s1 k (by omega), ← l1 k (by omega), List.take_left]
    · rw [s1 (k + 1) (by omega), ← l1 (k + 1) (by omega), List.drop_left]
  have hfl : (xs.flatMap Ma.enc).length = (n1 + 1) * 8 := by rw [flat_len mlen, hn]
  have hsl : ((cs.drop (off + (k + 1) * 8)).take ((n1 - k) * 8)).length = (n1 - k) * 8 := by rw [List.length_take, List.length_drop, Nat.min_eq_left (by omega)]
  rw [e1]
  apply List.ext_getElem?
  intro j
  by_cases hj : j < n1 * 8
  · rw [List.getElem?_take_of_lt hj, List.getElem?_drop, splice_get _ _ _ _ (by rw [hsl]; omega), hsl]
    by_cases hjk : j < k * 8
    · rw [if_neg (by omega), List.getElem?_append_left (by rw [List.length_take]; omega), List.getElem?_take_of_lt hjk, F j (by omega)]
    · rw [if_pos (by omega), List.getElem?_append_right (by rw [List.length_take]; omega), List.getElem?_take_of_lt (by omega), List.getElem?_drop, List.getElem?_drop, List.length_take, Nat.min_eq_left (by omega), F _ (by omega)]
      congr 1; omega
  · rw [List.getElem?_eq_none (by rw [List.length_take]; omega), List.getElem?_eq_none (by rw [List.length_append, List.length_take, List.length_drop, hfl]; omega)]
theorem splice_low {cs ys : List Sc} {off a n : Nat} (h : a + ys.length ≤ cs.length) (hn : off + n ≤ a) : ((splice a ys cs).drop off).take n = (cs.drop off).take n := by
  apply List.ext_getElem?
  intro j
  by_cases hj : j < n
  · rw [List.getElem?_take_of_lt hj, List.getElem?_take_of_lt hj, List.getElem?_drop, List.getElem?_drop, splice_get _ _ _ _ h, if_neg (by omega)]
  · rw [List.getElem?_eq_none (by rw [List.length_take]; omega), List.getElem?_eq_none (by rw [List.length_take]; omega)]
theorem splice_all_plain {m : Nat → Nat} {cs ys : List Sc} {a : Nat} (hc : cs.map (renS m) = cs) (hy : ys.map (renS m) = ys) (h : a + ys.length ≤ cs.length) : (splice a ys cs).map (renS m) = splice a ys cs := by
  apply List.ext_getElem?
  intro j
  have g : ∀ (l : List Sc), l.map (renS m) = l → ∀ j, (l[j]?).map (renS m) = l[j]? := fun l hl j => by rw [← List.getElem?_map, hl]
  rw [List.getElem?_map, splice_get _ _ _ _ h]
  split
  · exact g _ hy _
  · exact g _ hc _
def zMa : List Sc := [.int .i64 0, .int .i64 0, .int .i64 0, .int .i64 0, .int .i64 0, .int .i64 0, .int .i64 0, .str ⟨#[]⟩]
set_option maxRecDepth 100000 in
theorem deleteMail {H : List Blk} {id off cap n1 k : Nat} {cs : List Sc} {xs : List Ma} {ki : Int} {Q : AV → List Blk → Prop} (hH : H[id]? = some (.own cs)) (hn : xs.length = n1 + 1) (hcap : n1 + 1 ≤ cap) (hsm : n1 < 1000000)
    (h2 : off + (n1 + 1) * 8 ≤ cs.length) (h4 : (cs.drop off).take ((n1 + 1) * 8) = xs.flatMap Ma.enc) (hk : k ≤ n1) (hki : ki = (k : Int) + 1)
    (q : ∀ cs', cs'.length = cs.length → (∀ m, cs.map (renS m) = cs → cs'.map (renS m) = cs') → (cs'.drop off).take (n1 * 8) = (xs.eraseIdx k).flatMap Ma.enc → Q (.c (.sc (.sl id off 8 n1 cap))) (H.set id (.own cs'))) :
    ACalls Try.prog 125 [.sc (.sl id off 8 (n1 + 1) cap), .sc (.int .i64 k), .sc (.int .i64 ki)] H Q := by
  subst hki
  refine acalls_of tabOk Try.func125 (by kernel_rfl) rfl (by kernel_rfl) ?_
  have f1 : (k : Int) ≤ (k : Int) + 1 := by omega
  have f2 : (k : Int) + 1 ≤ (n1 : Int) + 1 := by omega
  have f3 : (n1 : Int) + 1 ≤ cap := by omega
  have f4 : ¬(k : Int) = (k : Int) + 1 := by omega
  have f5 : (0 : Int) ≤ (k : Int) + 1 := by omega
  have f6 : (k : Int) ≤ cap := by omega
  have f7 : ((k : Int) + 1).toNat = k + 1 := by omega
  have f8 : ((n1 : Int) + 1).toNat = n1 + 1 := by omega
  have f9 : ¬((n1 : Int) + 1 = (k : Int)) := by omega
  (repeat' (first | refine awp_seq ?_ | (refine awp_region tabOk ?_; simp [f1, f2, f3, f4, f5, f6, f7, f8, f9]) | (refine awp_if ?_; simp [f1, f2, f3, f4, f5, f6, f7, f8, f9]) | refine awp_block ?_ | refine And.intro ?_ ?_ | intro _ | (refine awp_skip ?_; simp [f1, f2, f3, f4, f5, f6, f7, f8, f9]) | (refine awp_ret ?_; simp [f1, f2, f3, f4, f5, f6, f7, f8, f9]) | (refine awp_exit ?_; simp [f1, f2, f3, f4, f5, f6, f7, f8, f9])))
  refine awp_draw tabOk mixed [] (by kernel_rfl) ?_
  have e1 : k + (n1 - k) = n1 := by omega
  have e2 : n1 ≤ cap := by omega
  have e3 : off + (k + 1) * 8 + (n1 - k) * 8 ≤ cs.length := by omega
  have e4 : off + n1 * 8 ≤ cs.length := by omega
  have hid : id < H.length := (List.getElem?_eq_some_iff.1 hH).1
  have hdel := del_cells hn h2 h4 hk
  have hsl : ((cs.drop (off + (k + 1) * 8)).take ((n1 - k) * 8)).length = (n1 - k) * 8 := by rw [List.length_take, List.length_drop, Nat.min_eq_left (by omega)]
  have hl1 : (splice (off + k * 8) ((cs.drop (off + (k + 1) * 8)).take ((n1 - k) * 8)) cs).length = cs.length := splice_length _ _ _
  have hpl1 : ∀ m, cs.map (renS m) = cs → (splice (off + k * 8) ((cs.drop (off + (k + 1) * 8)).take ((n1 - k) * 8)) cs).map (renS m) = splice (off + k * 8) ((cs.drop (off + (k + 1) * 8)).take ((n1 - k) * 8)) cs := fun m hc => splice_all_plain hc (by rw [List.map_take, List.map_drop, hc]) (by rw [hsl]; omega)
  simp [f1, f2, f3, f4, f5, f6, f7, f8, f9, hH, e1, e2, e3, e4]
  generalize splice (off + k * 8) ((cs.drop (off + (k + 1) * 8)).take ((n1 - k) * 8)) cs = cs1 at *
  have hs1 : (H.set id (.own cs1))[id]? = some (.own cs1) := List.getElem?_set_self hid
  have g1 : n1 + 1 - n1 = 1 := by omega
  have g2 : (n1 : Int) ≤ (n1 : Int) + 1 := by omega
  have g3 : (n1 : Int) + 1 ≤ cap := by omega
  have g4 : off + n1 * 8 + 8 ≤ cs1.length := by rw [hl1]; omega
  have hz : ([Sc.int .i64 0, .int .i64 0, .int .i64 0, .int .i64 0, .int .i64 0, .int .i64 0, .int .i64 0, .str ⟨#[]⟩] : List Sc) = zMa := rfl
  have hzl : zMa.length = 8 := rfl
  (repeat' (first | refine awp_seq ?_ | (refine awp_region tabOk ?_; simp [hs1, f8, g1, g2, g3, g4, hz, hzl]) | (refine awp_if ?_; simp [hs1, f8, g1, g2, g3, g4, hz, hzl]) | refine awp_block ?_ | refine And.intro ?_ ?_ | intro _ | (refine awp_skip ?_; simp [hs1, f8, g1, g2, g3, g4, hz, hzl]) | (refine awp_ret ?_; simp [hs1, f8, g1, g2, g3, g4, hz, hzl]) | (refine awp_exit ?_; simp [hs1, f8, g1, g2, g3, g4, hz, hzl])))
  refine ⟨_, _, GcTo.refl (by simp), ?_⟩
  refine q (splice (off + n1 * 8) zMa cs1) (by rw [splice_length, hl1]) (fun m hc => splice_all_plain (hpl1 m hc) rfl (by rw [hzl]; exact g4)) ?_
  rw [splice_low (by rw [hzl]; exact g4) (Nat.le_refl _)]
  exact hdel
set_option maxRecDepth 100000 in
set_option maxHeartbeats 1000000 in
theorem deleteFuncMail {H : List Blk} {id off cap cid : Nat} {cs C : List Sc} {xs : List Ma} {f : FuncId} {caps : List (Nat × Nat)} {p : Ma → Bool} {Q : AV → List Blk → Prop} (hH : H[id]? = some (.own cs)) (hcap : xs.length ≤ cap) (hsm : xs.length < 1000000)
    (hpl : ∀ m, cs.map (renS m) = cs) (h2 : off + xs.length * 8 ≤ cs.length) (h4 : (cs.drop off).take (xs.length * 8) = xs.flatMap Ma.enc) (hC : Blk.cells? H[cid]? = some C) (hne : ¬cid = id)
    (hcaps : ∀ (ks : List Nat) (top : Nat), caps.map (fun q => (mStd H.length ks top q.1, q.2)) = caps)
    (hp : ∀ x ∈ xs, ∀ (K : List Blk) (Q : AV → List Blk → Prop), Blk.cells? K[cid]? = some C → Q (.c (.sc (.bool (p x)))) K → ACalls Try.prog f (.agg x.enc :: capsC caps) K Q)
    (q : ∀ cs', cs'.length = cs.length → (∀ m, cs'.map (renS m) = cs') → (cs'.drop off).take ((xs.filter fun x => !p x).length * 8) = (xs.filter fun x => !p x).flatMap Ma.enc → Q (.c (.sc (.sl id off 8 (xs.filter fun x => !p x).length cap))) (H.set id (.own cs'))) :
    ACalls Try.prog 123 [.sc (.sl id off 8 xs.length cap), .sc (.fn f caps)] H Q := by
  refine acalls_of tabOk Try.func123 (by kernel_rfl) rfl (by kernel_rfl) ?_
  have hid : id < H.length := (List.getElem?_eq_some_iff.1 hH).1
  have hcell : Blk.cells? H[id]? = some cs := by rw [hH]; rfl
  have hsame : H.set id (.own cs) = H := by
    apply List.ext_getElem?
    intro j
    rw [List.getElem?_set]
    split
    · rename_i hj; subst hj; first | rw [if_pos hid, hH] | rw [hH]
    · rfl
  (repeat' (first | refine awp_seq ?_ | (refine awp_region tabOk ?_; simp) | (refine awp_if ?_; simp) | refine awp_block ?_ | refine And.intro ?_ ?_ | intro _ | (refine awp_skip ?_; simp) | (refine awp_ret ?_; simp) | (refine awp_exit ?_; simp)))
  refine indexMail (xs := xs) (p := p) (.inr ⟨id, off, cap, cs, rfl, hcap, h2, hcell, h4⟩) hsm (fun x hx Q hq => hp x hx H Q hC hq) (fun hno => ?_) (fun k x hx hpx hpre => ?_)
  · have e : (xs.filter fun x => !p x) = xs := List.filter_eq_self.2 fun x hx => by rw [hno x hx]; rfl
    ((try simp); (repeat' (first | refine awp_seq ?_ | (refine awp_region tabOk ?_; simp) | (refine awp_if ?_; simp) | refine awp_block ?_ | refine And.intro ?_ ?_ | intro _ | (refine awp_skip ?_; simp) | (refine awp_ret ?_; simp) | (refine awp_exit ?_; simp))))
    have := q cs rfl hpl (by rw [e]; exact h4)
    rw [e, hsame] at this
    exact ⟨_, _, GcTo.refl (by simp), this⟩
  · have hk : k < xs.length := (List.getElem?_eq_some_iff.1 hx).1
    have wk := wrapS k (by omega)
    have ek : ¬(k : Int) = -1 := by omega
    have hpk : (xs.take (k + 1)).filter (fun x => !p x) = xs.take k := by
      rw [take_snoc hx, List.filter_append, List.filter_eq_self.2 fun y hy => by rw [hpre y hy]; rfl]
      simp [hpx]
    ((try simp [ek, wk]); (repeat' (first | refine awp_seq ?_ | (refine awp_region tabOk ?_; simp [ek, wk]) | (refine awp_if ?_; simp [ek, wk]) | refine awp_block ?_ | refine And.intro ?_ ?_ | intro _ | (refine awp_skip ?_; simp [ek, wk]) | (refine awp_ret ?_; simp [ek, wk]) | (refine awp_exit ?_; simp [ek, wk]))))
    have hfl : ∀ j, (xs.take j).flatMap Ma.enc = (xs.flatMap Ma.enc).take (j * 8) := fun j => by
      by_cases hj : j ≤ xs.length
      · have s1 : xs.flatMap Ma.enc = (xs.take j).flatMap Ma.enc ++ (xs.drop j).flatMap Ma.enc := by rw [← List.flatMap_append, List.take_append_drop]
        have l1 : ((xs.take j).flatMap Ma.enc).length = j * 8 := by rw [flat_len mlen, List.length_take, Nat.min_eq_left hj]
        rw [s1, ← l1, List.take_left]
      · rw [List.take_of_length_le (by omega), List.take_of_length_le (by rw [flat_len mlen]; omega)]
    refine awp_loop_at (α := {s : Nat × Nat × List Sc // s.2.1 ≤ xs.length ∧ s.1 = ((xs.take s.2.1).filter fun x => !p x).length ∧ s.1 < s.2.1 ∧ s.2.2.length = cs.length ∧ (∀ m, s.2.2.map (renS m) = s.2.2) ∧
        (s.2.2.drop off).take (s.1 * 8) = ((xs.take s.2.1).filter fun x => !p x).flatMap Ma.enc ∧ ∀ i x, s.2.1 ≤ i → xs[i]? = some x → (s.2.2.drop (off + i * 8)).take 8 = x.enc})
      (fun s => [(0, .c (.sc (.sl id off 8 xs.length cap))), (1, .c (.sc (.fn f caps))), (5, .c (.sc (.int .i64 s.1.1))), (6, .c (.sc (.int .i64 s.1.2.1)))]) (fun s => H.set id (.own s.1.2.2)) (fun s => xs.length - s.1.2.1)
      ⟨(k, k + 1, cs), by show k + 1 ≤ _; omega, by show k = _; rw [hpk, List.length_take]; omega, by show k < k + 1; omega, rfl, hpl, by
        show (cs.drop off).take (k * 8) = _
        rw [hpk, hfl, ← h4, List.take_take, Nat.min_eq_left (by omega)], fun i x _ hi => (gsl_row mlen h2 h4 hi).1⟩ (wk_tlH (by rw [hsame]) (by simp)) ?_
    rintro ⟨⟨i, j, cj⟩, hj, hi, hij, hlen, hplj, hpre', hrest⟩
    simp only at hj hi hij hlen hplj hpre' hrest
    have hsj : ∀ L, (H.set id (.own cj) ++ L)[id]? = some (.own cj) := fun L => by rw [List.getElem?_append_left (by simpa using hid)]; exact List.getElem?_set_self hid
    by_cases hjl : j < xs.length
    · obtain ⟨y, hy⟩ : ∃ y, xs[j]? = some y := ⟨xs[j], List.getElem?_eq_getElem hjl⟩
      have row := hrest j y (Nat.le_refl _) hy
      have rlt : off + j * 8 + 8 ≤ cj.length := by rw [hlen]; omega
      have wj := wrapS j (by omega)
      have wi := wrapS i (by omega)
      have hKc : ∀ L, Blk.cells? (H.set id (.own cj) ++ L)[cid]? = some C := fun L => by
        refine lowc_of ?_ L
        rw [List.getElem?_set_ne (fun e => hne e.symm)]; exact hC
      have hft : (xs.take (j + 1)).filter (fun x => !p x) = (xs.take j).filter (fun x => !p x) ++ if p y then [] else [y] := by
        rw [take_snoc hy, List.filter_append]; cases h : p y <;> simp [h]
      (repeat' (first | refine awp_seq ?_ | (refine awp_region tabOk ?_; simp [hjl, hsj, row, rlt, gapS, gapS0, sapS, sapS0, hid]) | (refine awp_if ?_; simp [hjl, hsj, row, rlt, gapS, gapS0, sapS, sapS0, hid]) | refine awp_block ?_ | refine And.intro ?_ ?_ | intro _ | (refine awp_skip ?_; simp [hjl, hsj, row, rlt, gapS, gapS0, sapS, sapS0, hid]) | (refine awp_ret ?_; simp [hjl, hsj, row, rlt, gapS, gapS0, sapS, sapS0, hid]) | (refine awp_exit ?_; simp [hjl, hsj, row, rlt, gapS, gapS0, sapS, sapS0, hid])))
      refine hp y (List.mem_of_getElem? hy) _ _ (hKc _) ?_
      cases hpy : p y with
      | true =>
        rw [if_pos hpy, List.append_nil] at hft
        ((try simp [hsj]); (repeat' (first | refine awp_seq ?_ | (refine awp_region tabOk ?_; simp [hsj]) | (refine awp_if ?_; simp [hsj]) | refine awp_block ?_ | refine And.intro ?_ ?_ | intro _ | (refine awp_skip ?_; simp [hsj]) | (refine awp_ret ?_; simp [hsj]) | (refine awp_exit ?_; simp [hsj]))))
        refine ⟨i, j + 1, by omega, cj, ⟨by omega, by rw [hft]; exact hi, by omega, hlen, hplj, by rw [hft]; exact hpre', fun i' x' h1 h2 => hrest i' x' (by omega) h2⟩, ?_⟩
        refine wk_gclS0 (b := .own cj) (L := [.own y.enc]) (fun m => congrArg Blk.own (hplj m)) ?_
        simp [wj, mStd_low hid, hcaps]
      | false =>
        rw [if_neg (by rw [hpy]; simp)] at hft
        have ri : off + i * 8 + 8 ≤ cj.length := by rw [hlen]; omega
        have hil : i < xs.length := by omega
        have hs2 := fun L => setlow (H := H.set id (.own cj)) (L := L) (id := id) (b := .own (splice (off + i * 8) y.enc cj)) (by simpa using hid)
        have hen : y.enc.map (renS (fun _ => 0)) = y.enc := rfl
        ((try simp [hsj, ri, hil, gapS, gapS0, sapS, sapS0, hid]); (repeat' (first | refine awp_seq ?_ | (refine awp_region tabOk ?_; simp [hsj, ri, hil, gapS, gapS0, sapS, sapS0, hid]) | (refine awp_if ?_; simp [hsj, ri, hil, gapS, gapS0, sapS, sapS0, hid]) | refine awp_block ?_ | refine And.intro ?_ ?_ | intro _ | (refine awp_skip ?_; simp [hsj, ri, hil, gapS, gapS0, sapS, sapS0, hid]) | (refine awp_ret ?_; simp [hsj, ri, hil, gapS, gapS0, sapS, sapS0, hid]) | (refine awp_exit ?_; simp [hsj, ri, hil, gapS, gapS0, sapS, sapS0, hid]))))
        refine ⟨i + 1, j + 1, by omega, splice (off + i * 8) y.enc cj, ⟨by omega, by rw [hft]; simp [hi], by omega, by rw [splice_length, hlen], fun m => splice_all_plain (hplj m) rfl (by simpa using ri), ?_, fun i' x' h1 h2 => ?_⟩, ?_⟩
        · rw [hft, List.flatMap_append]
          apply List.ext_getElem?
          intro q
          have hfl2 : (((xs.take j).filter fun x => !p x).flatMap Ma.enc).length = i * 8 := by rw [flat_len mlen, hi]
          by_cases hq : q < (i + 1) * 8
          · rw [List.getElem?_take_of_lt hq, List.getElem?_drop, splice_get _ _ _ _ (by simpa using ri)]
            by_cases hq2 : q < i * 8
            · rw [if_neg (by omega), List.getElem?_append_left (by omega), ← hpre', List.getElem?_take_of_lt hq2, List.getElem?_drop]
            · rw [if_pos (by simp; omega), List.getElem?_append_right (by omega), hfl2]
              simp only [List.flatMap_cons, List.flatMap_nil, List.append_nil]
              congr 1; omega
          · rw [List.getElem?_eq_none (by rw [List.length_take]; omega), List.getElem?_eq_none (by rw [List.length_append, hfl2]; simp; omega)]
        · have := hrest i' x' (by omega) h2
          rw [← this]
          apply List.ext_getElem?
          intro q
          by_cases hq : q < 8
          · rw [List.getElem?_take_of_lt hq, List.getElem?_take_of_lt hq, List.getElem?_drop, List.getElem?_drop, splice_get _ _ _ _ (by simpa using ri), if_neg (by simp; omega)]
          · rw [List.getElem?_eq_none (by rw [List.length_take]; omega), List.getElem?_eq_none (by rw [List.length_take]; omega)]
        · refine wk_gclS0 (b := .own (splice (off + i * 8) y.enc cj)) (L := [.own y.enc]) (fun m => congrArg Blk.own (splice_all_plain (hplj m) rfl (by simpa using ri))) ?_
          simp [wj, wi, mStd_low hid, hcaps]
    · obtain rfl : j = xs.length := by omega
      have hii : i ≤ xs.length := by omega
      have hs0 := hsj []
      rw [List.append_nil] at hs0
      have ri : off + i * 8 + (xs.length - i) * 8 ≤ cj.length := by rw [hlen]; omega
      have hzl : ∀ n : Nat, (List.replicate n zMa).flatten.length = n * 8 := fun n => by simp [zMa]
      have hz : ([Sc.int .i64 0, .int .i64 0, .int .i64 0, .int .i64 0, .int .i64 0, .int .i64 0, .int .i64 0, .str ⟨#[]⟩] : List Sc) = zMa := rfl
      rw [List.take_length] at hi hpre'
      have hz8 : zMa.length = 8 := rfl
      have hic : i ≤ cap := by omega
      (repeat' (first | refine awp_seq ?_ | (refine awp_region tabOk ?_; simp [hjl, hii, hcap, hs0, ri, hz, hz8, hic]) | (refine awp_if ?_; simp [hjl, hii, hcap, hs0, ri, hz, hz8, hic]) | refine awp_block ?_ | refine And.intro ?_ ?_ | intro _ | (refine awp_skip ?_; simp [hjl, hii, hcap, hs0, ri, hz, hz8, hic]) | (refine awp_ret ?_; simp [hjl, hii, hcap, hs0, ri, hz, hz8, hic]) | (refine awp_exit ?_; simp [hjl, hii, hcap, hs0, ri, hz, hz8, hic])))
      refine ⟨_, _, GcTo.refl (by simp), ?_⟩
      rw [hi] at ri hpre' ⊢
      refine q (splice (off + (xs.filter fun x => !p x).length * 8) (List.replicate (xs.length - (xs.filter fun x => !p x).length) zMa).flatten cj) (by rw [splice_length, hlen]) (fun m => splice_all_plain (hplj m) ?_ (by rw [hzl]; exact ri)) ?_
      · rw [List.map_flatten, List.map_replicate]; rfl
      · rw [splice_low (by rw [hzl]; exact ri) (Nat.le_refl _)]; exact hpre'
end Go.Proofs.Ytdeockoaalpcjaa
