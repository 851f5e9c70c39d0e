/- The abstract machine: the law of the operations that make blocks or write into them. No program stands here. -/
import Derived.Test.YtjjhogleiolngaaA7
import Derived.Laws.MakeOwn
namespace Go.Proofs.Ytjjhogleiolngaa
open Go.RowKit

section
variable {P : Program} {tab : TypeId → Option TI} {ρ : Map} {w : World} {T : Nat → AV} {H : List Blk} {N : Nat} {a : Act}

/-- What the source of an append or a copy is in the model. -/
theorem srcC_sound (ht : TabOk P tab) {tx : TypeId} {ix : TI} (hx : tab tx = some ix) (hr : Rel ρ H w) {size : Nat} {x : AC} {v : Value} (hv : relC ρ x v) {p : Prop} {n : Nat} {xs : List Sc} (h : srcC H size ix x = some (p, n, xs)) (hp : p) :
    ∃ us : Array Value, Src P size tx v n us.toList w ∧ relL ρ xs us ∧ ∀ k, k ≤ n → (Builtin.firstCells size k v).run P w = .ok (us.extract 0 (k * size)) w := by
  unfold srcC at h
  split at h
  · rename_i e hk
    simp only [Option.some.injEq, Prod.mk.injEq] at h; obtain ⟨rfl, rfl, rfl⟩ := h
    obtain rfl : v = .slice none 0 0 := hv
    exact ⟨#[], Src.ofNil w ((ht tx ix hx).slice hk) 0, ⟨rfl, fun j x hj => by simp at hj⟩, fun k hk => by simp [Builtin.firstCells]⟩
  · rename_i e hk
    simp only [Option.some.injEq, Prod.mk.injEq] at h; obtain ⟨rfl, rfl, rfl⟩ := h
    obtain ⟨ad, rfl⟩ := hv
    exact ⟨#[], Src.ofSlice w ((ht tx ix hx).slice hk) ad 0 0 [] (by simp) (fun j u hj => by simp at hj) (fun u hu => by cases hu), ⟨rfl, fun j x hj => by simp at hj⟩, fun k hk => by
      obtain rfl : k = 0 := by omega
      simp [Builtin.firstCells, loadCells, loadCellsFrom]⟩
  · rename_i e id off es len cap hk
    split at h
    · rename_i cs hcs
      simp only [Option.some.injEq, Prod.mk.injEq] at h; obtain ⟨rfl, rfl, rfl⟩ := h
      obtain ⟨rfl, hl⟩ := hp
      obtain ⟨L, ad, c, e1, rfl, l1, l2, l3, l4⟩ := hv
      obtain ⟨cc, et, fr, c1, c2⟩ := hr.cells e1 hcs
      have hrl := relL_slice c2 off (len * es) hl
      rcases l4 with l4 | ⟨l4, _⟩
      · have h0 : len = 0 := by omega
        subst h0
        exact ⟨#[], Src.ofSlice w ((ht tx ix hx).slice hk) ad 0 c [] (by simp) (fun j u hj => by simp at hj) (fun u hu => by cases hu), ⟨by simp, fun j x hj => by simp at hj⟩, fun k hk => by
          obtain rfl : k = 0 := by omega
          simp [Builtin.firstCells, loadCells, loadCellsFrom]⟩
      · subst l4
        refine ⟨_, Src.ofSlice w ((ht tx ix hx).slice hk) _ len c _ ?_ (fun j u hj => ?_) (relL_one hrl), hrl, fun k hk => ?_⟩
        · have := hrl.1; simp only [Array.length_toList]; rw [this]; simp; omega
        · rw [add_at, cell_at c1]
          simp only [Array.getElem?_toList] at hj
          rw [Array.getElem?_extract] at hj
          split at hj
          · exact hj
          · cases hj
        · have hkl : k * es ≤ len * es := Nat.mul_le_mul_right _ hk
          simp only [Builtin.firstCells]
          rw [loadCells_at c1 (size_at c2 (off := off) (n := k * es) (by omega))]
          congr 1
          rw [Array.extract_extract]
          congr 1; omega
    · cases h
  · rename_i s hk
    simp only [Option.some.injEq, Prod.mk.injEq] at h; obtain ⟨rfl, rfl, rfl⟩ := h
    subst hp
    obtain rfl : v = .string s := hv
    refine ⟨(byteCells s).toArray, by simpa using Src.ofString w ((ht tx ix hx).str hk) s, ⟨by simp [byteCells], fun j x hj => ?_⟩, fun k hk => ?_⟩
    rotate_left
    · simp only [Builtin.firstCells, Nat.mul_one, Sem.run_pure]
      congr 1
      apply Array.ext'
      simp [byteCells]
    simp only [List.getElem?_map, Option.map_eq_some_iff] at hj
    obtain ⟨b, hb, rfl⟩ := hj
    exact ⟨.int .u8 b.toNat, by simp only [byteCells, List.getElem?_toArray, List.getElem?_map, hb]; rfl, rfl⟩
  · cases h

theorem set_self {H : List Blk} {id : Nat} {b : Blk} (h : H[id]? = some b) : H.set id b = H := by
  apply List.ext_getElem?
  intro j
  rw [List.getElem?_set]
  split
  · rename_i e; subst e
    split
    · exact h.symm
    · rename_i hl; rw [List.getElem?_eq_none (by omega)]
  · rfl
theorem grow_block (hr : Rel ρ H w) {olds xs : List Sc} {uo ux : Array Value} (h1 : relL ρ olds uo) (h2 : relL ρ xs ux) {size n sCap : Nat} {e : TypeId} (z : Array Value) (blk : Array Value)
    (hblk : blk = uo ++ ux ++ Builtin.zeroCells z (grownCap w n sCap e - n)) (hk : (olds ++ xs).length = n * size) (hz : z.size = size) (hm : n ≤ maxLen) :
    ∃ ρ', relC ρ' (.sc (.sl H.length 0 size n n)) (.slice (some ⟨w.heap.size, 0, none⟩) n (grownCap w n sCap e)) ∧ Rel ρ' (H ++ [.own (olds ++ xs)]) (w.drew.alloc (.cells blk e)) ∧ Stp H.length ρ H w ρ' (H ++ [.own (olds ++ xs)]) (w.drew.alloc (.cells blk e)) := by
  have hge : n ≤ grownCap w n sCap e := grownCap_ge w n sCap e
  have hle : grownCap w n sCap e ≤ maxLen := grownCap_le_maxLen w n sCap e hm
  have hrd : Rel ρ H w.drew := hr.heap rfl
  have hap : relL ρ (olds ++ xs) (uo ++ ux) := relL_append h1 h2
  have hsz : blk.size = grownCap w n sCap e * size := by
    rw [hblk, Array.size_append, hap.1, hk, size_zeroCells, hz, ← Nat.add_mul]
    congr 1; omega
  have hca : ∀ σ : Map, ρ.le σ → cellsAt σ blk 0 (olds ++ xs) := fun σ hs j x hj => by
    obtain ⟨u, hu, r⟩ := (relL_le hs hap).2 j x hj
    refine ⟨u, ?_, r⟩
    have hjl : j < (uo ++ ux).size := (Array.getElem?_eq_some_iff.1 hu).1
    rw [Nat.zero_add, hblk, Array.getElem?_append_left hjl]; exact hu
  obtain ⟨r1, r2⟩ := rel_allocN hrd blk e (olds ++ xs) (grownCap w n sCap e * size) (by rw [hk]; exact Nat.mul_le_mul_right _ hge) (by omega) hca
  exact ⟨_, ⟨_, _, grownCap w n sCap e, Map.put_same _ _ _, rfl, Nat.le_refl _, hge, hle, .inr ⟨rfl, by simp⟩⟩, r1, (Stp.drawn H.length ρ H w (w.drawn + 1)).trans r2⟩

theorem run_append_room_row (t tx ty e : TypeId) (i : TypeInfo) (ht : P.underlying t = some (.slice e)) (hi : P.info? e = some i) (b off sLen sCap : Nat) (x : Value) (n : Nat) (news : List Value) (hs : Src P i.size tx x n news w)
    (hroom : sLen + n ≤ sCap) {c : Array Value} {et : TypeId} (hg : w.heap[b]? = some (.cells c et (0, 0))) (hfit : off + sLen * i.size + news.length ≤ c.size) :
    (Builtin.append_ #[t, tx] ty #[.slice (some ⟨b, off, none⟩) sLen sCap, x]).run P w = .ok (.slice (some ⟨b, off, none⟩) (sLen + n) sCap) (w.setRow b (c.toList.take (off + sLen * i.size) ++ news ++ c.toList.drop (off + sLen * i.size + news.length)).toArray) := by
  have hst := run_storeCells_at P b (off + sLen * i.size) et news 0 c w hg (by simpa using hfit) hs.one
  simp only [Nat.add_zero] at hst
  rcases hs.kind with ⟨e', hk⟩ | hk <;> simp [Builtin.append_, run_underlying ht, run_underlying hk, sizeOf, typeInfo, hi, hs.len, hroom, hs.cells, Addr.add_lit, hst]
theorem run_append_empty (t tx ty e : TypeId) (i : TypeInfo) (ht : P.underlying t = some (.slice e)) (hi : P.info? e = some i) (base : Option Addr) (sLen sCap : Nat) (x : Value) (news : List Value) (hs : Src P i.size tx x 0 news w)
    (hroom : sLen ≤ sCap) : (Builtin.append_ #[t, tx] ty #[.slice base sLen sCap, x]).run P w = .ok (.slice base sLen sCap) w := by
  have hn : news = [] := List.eq_nil_of_length_eq_zero (by have := hs.newsLen; simpa using this)
  subst hn
  have hc := hs.cells
  cases base <;> rcases hs.kind with ⟨e', hk⟩ | hk <;> simp [Builtin.append_, run_underlying ht, run_underlying hk, sizeOf, typeInfo, hi, hs.len, hroom, hc, storeCells]

/-- Appending to a slice of one's own: the old name dies. -/
theorem append_own (hr : Rel ρ H w) {t tx ty e : TypeId} {i : TypeInfo} {zv : Value} (hu : P.underlying t = some (.slice e)) (hi : P.info? e = some i) (hz : i.zero = some zv) (hzs : zv.cells.size = i.size)
    {id off len cap : Nat} {v : Value} (hv : relC ρ (.sc (.sl id off i.size len cap)) v) {cs : List Sc} (hd : H[id]? = some (.own cs)) (hl : off + len * i.size ≤ cs.length)
    {x : Value} {n : Nat} {us : Array Value} {xs : List Sc} (hs : Src P i.size tx x n us.toList w) (hx : relL ρ xs us) (hb : (len + n) * i.bytes ≤ 140737488355328) (hm : len + n ≤ maxLen) :
    ∃ u w' ρ', (Builtin.append_ #[t, tx] ty #[v, x]).run P w = .ok u w' ∧ relC ρ' (.sc (.sl H.length 0 i.size (len + n) (len + n))) u ∧
      Rel ρ' (H.set id .dead ++ [.own ((cs.drop off).take (len * i.size) ++ xs)]) w' ∧ Stp H.length ρ H w ρ' (H.set id .dead ++ [.own ((cs.drop off).take (len * i.size) ++ xs)]) w' := by
  obtain ⟨L, ad, c, e1, rfl, l1, l2, l3, l4⟩ := hv
  obtain ⟨hcl, cc, et, h1, h2, h3⟩ := hr.has id L _ e1 hd
  have holds := relL_slice h3 off (len * i.size) hl
  have hxl : xs.length = n * i.size := by have := hs.newsLen; simp at this; rw [← this, hx.1]
  have hol : ((cs.drop off).take (len * i.size)).length = len * i.size := by simp; omega
  have hlen : ((cs.drop off).take (len * i.size) ++ xs).length = (len + n) * i.size := by rw [List.length_append, hol, hxl, Nat.add_mul]
  have hkl := rel_kill hr id
  have hks := stp_kill H.length ρ H w id
  have klen : (H.set id .dead).length = H.length := by simp
  have hdead : (H.set id Blk.dead)[id]? = some .dead := by rw [List.getElem?_set_self (hr.dom id L e1)]
  have get : ∀ (j : Nat) (d : Blk), (H.set id Blk.dead)[j]? = some d → d.live → j ≠ id ∧ H[j]? = some d := fun j d hj hlv => by
    rw [List.getElem?_set] at hj
    split at hj
    · split at hj
      · cases hj; exact hlv.elim
      · cases hj
    · exact ⟨fun e => by omega, hj⟩
  by_cases hroom : len + n ≤ c
  · -- there is room
    by_cases h0 : c = 0
    · subst h0
      have hl0 : len = 0 := by omega
      have hn0 : n = 0 := by omega
      subst hl0 hn0
      have hrun := run_append_empty (P := P) (w := w) t tx ty e i hu hi (some ad) 0 0 x us.toList hs (Nat.le_refl _)
      refine ⟨_, w, ρ.put H.length ⟨L.b, L.o, 0⟩, hrun, ⟨_, ad, 0, Map.put_same _ _ _, rfl, Nat.le_refl _, Nat.le_refl _, by unfold maxLen; omega, .inl rfl⟩, ?_⟩
      have hxs : xs = [] := List.eq_nil_of_length_eq_zero (by simpa using hxl)
      subst hxs
      simp only [Nat.zero_mul, List.take_zero, List.append_nil]
      have hp := hkl.push ⟨L.b, L.o, 0⟩ [] ⟨Nat.le_refl _, cc, et, h1, by show L.o + 0 ≤ cc.size; omega, fun j x hj => by simp at hj⟩ (fun j M d f1 f2 f3 => by
        obtain ⟨g1, g2⟩ := get j d f2 f3
        exact fun e => hr.sep id j L M _ d (Ne.symm g1) e1 f1 hd g2 trivial f3 e.symm)
      rw [klen] at hp
      refine ⟨hp, fun j hj => Map.put_ne _ _ (by omega), rfl, rfl, rfl, Nat.le_refl _, fun _ _ _ => rfl, fun j M d f1 f2 f3 => ?_⟩
      by_cases hj : j = H.length
      · subst hj; rw [Map.put_same] at f1; cases f1; exact .inl ⟨id, L, _, e1, hd, trivial, rfl⟩
      · rw [Map.put_ne _ _ hj] at f1
        rw [List.getElem?_append_left (by rw [klen]; exact hr.dom j M f1)] at f2
        obtain ⟨g1, g2⟩ := get j d f2 (Blk.live_of_own f3)
        exact .inl ⟨j, M, d, f1, g2, f3, rfl⟩
    · rcases l4 with l4 | ⟨l4, l5⟩
      · exact absurd l4 h0
      subst l4
      have hfit : L.o + off + len * i.size + us.toList.length ≤ cc.size := by
        have e2 : us.toList.length = n * i.size := hs.newsLen
        have e3 : len * i.size + n * i.size ≤ c * i.size := by rw [← Nat.add_mul]; exact Nat.mul_le_mul_right _ hroom
        omega
      have hrun := run_append_room_row (P := P) t tx ty e i hu hi L.b (L.o + off) len c x n us.toList hs hroom h1 hfit
      refine ⟨_, _, ρ.put H.length ⟨L.b, L.o + off, L.n - off⟩, hrun, ⟨_, _, c, Map.put_same _ _ _, rfl, Nat.le_refl _, hroom, l3, .inr ⟨rfl, by simp; omega⟩⟩, ?_⟩
      have hle := hkl.put_le ⟨L.b, L.o + off, L.n - off⟩
      rw [klen] at hle
      have hw : Rel ρ (H.set id .dead) (w.setRow L.b (cc.toList.take (L.o + off + len * i.size) ++ us.toList ++ cc.toList.drop (L.o + off + len * i.size + us.toList.length)).toArray) :=
        hkl.world fun j M d f1 f2 f3 => by
          obtain ⟨g1, g2⟩ := get j d f2 f3
          exact setRow_other w L.b M.b _ (Ne.symm (hr.sep id j L M _ d (Ne.symm g1) e1 f1 hd g2 trivial f3))
      have hnew : cellsAt ρ (cc.toList.take (L.o + off + len * i.size) ++ us.toList ++ cc.toList.drop (L.o + off + len * i.size + us.toList.length)).toArray (L.o + off) ((cs.drop off).take (len * i.size) ++ xs) := by
        intro j y hj
        have hul : us.toList.length = xs.length := by simpa using hx.1
        by_cases hjl : j < len * i.size
        · rw [List.getElem?_append_left (by omega)] at hj
          obtain ⟨u, hu', r⟩ := holds.2 j y hj
          refine ⟨u, ?_, r⟩
          rw [Array.getElem?_extract] at hu'
          split at hu'
          · rw [List.getElem?_toArray, List.append_assoc, List.getElem?_append_left (by simp; omega), List.getElem?_take, if_pos (by omega), Array.getElem?_toList]; exact hu'
          · cases hu'
        · rw [List.getElem?_append_right (by omega), hol] at hj
          obtain ⟨u, hu', r⟩ := hx.2 _ y hj
          have hlt : j - len * i.size < xs.length := (List.getElem?_eq_some_iff.1 hj).1
          refine ⟨u, ?_, r⟩
          rw [List.getElem?_toArray, List.append_assoc, List.getElem?_append_right (by simp; omega), List.getElem?_append_left (by simp at hul ⊢; omega)]
          rw [← hu', Array.getElem?_toList]
          congr 1; simp; omega
      have hp := hw.push ⟨L.b, L.o + off, L.n - off⟩ _ ⟨by
          rw [hlen]
          have e3 : (len + n) * i.size ≤ c * i.size := Nat.mul_le_mul_right _ hroom
          show _ ≤ L.n - off
          omega, _, et, setRow_heap w L.b cc _ et _ h1, by
          show L.o + off + (L.n - off) ≤ _
          simp only [List.size_toArray, List.length_append, List.length_take, List.length_drop, Array.length_toList]
          simp only [Array.length_toList] at hfit
          omega, fun j y hj => by
          obtain ⟨u, q1, q2⟩ := hnew j y hj
          exact ⟨u, q1, relS_le (by rw [klen]; exact hle) q2⟩⟩ (fun j M d f1 f2 f3 => by
        obtain ⟨g1, g2⟩ := get j d f2 f3
        exact fun e => hr.sep id j L M _ d (Ne.symm g1) e1 f1 hd g2 trivial f3 e.symm)
      rw [klen] at hp
      refine ⟨hp, fun j hj => Map.put_ne _ _ (by omega), rfl, rfl, rfl, by simp [World.setRow], fun b _ hb => setRow_other w L.b b _ (fun e => hb id L _ e1 hd trivial e.symm), fun j M d f1 f2 f3 => ?_⟩
      by_cases hj : j = H.length
      · subst hj; rw [Map.put_same] at f1; cases f1; exact .inl ⟨id, L, _, e1, hd, trivial, rfl⟩
      · rw [Map.put_ne _ _ hj] at f1
        rw [List.getElem?_append_left (by rw [klen]; exact hr.dom j M f1)] at f2
        obtain ⟨g1, g2⟩ := get j d f2 (Blk.live_of_own f3)
        exact .inl ⟨j, M, d, f1, g2, f3, rfl⟩
  · -- a new row
    have hold : ∃ uo : Array Value, (Builtin.firstCells i.size len (.slice (some ad) len c)).run P w.drew = .ok uo.toList.toArray w.drew ∧ relL ρ ((cs.drop off).take (len * i.size)) uo := by
      rcases l4 with l4 | ⟨l4, _⟩
      · have h0 : len = 0 := by omega
        subst h0
        exact ⟨#[], by simp [Builtin.firstCells, loadCells, loadCellsFrom], by simp, fun j x hj => by simp at hj⟩
      · subst l4
        have h1' : w.drew.heap[L.b]? = some (.cells cc et (0, 0)) := h1
        refine ⟨cc.extract (L.o + off) (L.o + off + len * i.size), ?_, holds⟩
        simp only [Builtin.firstCells, Array.toArray_toList]
        exact loadCells_at h1' (size_at h3 hl)
    obtain ⟨uo, ho1, ho2⟩ := hold
    have hrun := run_append_grow_src (P := P) w t tx ty e i zv hu hi hz (some ad) len c uo.toList ho1 x n us.toList hs (by omega) (by unfold maxLen at hm; omega) (growslice_fits (by omega) hb)
    obtain ⟨ρ', q1, q2, q3⟩ := grow_block (e := e) (sCap := c) (n := len + n) hkl ho2 hx zv.cells ((uo.toList ++ us.toList).toArray ++ Builtin.zeroCells zv.cells (grownCap w (len + n) c e - (len + n))) (by apply Array.ext'; simp) hlen hzs hm
    rw [klen] at q1 q3
    exact ⟨_, _, ρ', hrun, q1, q2, hks.trans q3⟩

/-- Appending where there is room: in place. -/
theorem append_in (hr : Rel ρ H w) {t tx ty e : TypeId} {i : TypeInfo} (hu : P.underlying t = some (.slice e)) (hi : P.info? e = some i)
    {id off len cap : Nat} {v : Value} (hv : relC ρ (.sc (.sl id off i.size len cap)) v) {cs : List Sc} (hd : H[id]? = some (.own cs))
    {x : Value} {n : Nat} {us : Array Value} {xs : List Sc} (hs : Src P i.size tx x n us.toList w) (hx : relL ρ xs us) (hroom : len + n ≤ cap) (hl : off + (len + n) * i.size ≤ cs.length) :
    ∃ u w' ρ', (Builtin.append_ #[t, tx] ty #[v, x]).run P w = .ok u w' ∧ relC ρ' (.sc (.sl id off i.size (len + n) cap)) u ∧
      Rel ρ' (H.set id (.own (splice (off + len * i.size) xs cs))) w' ∧ Stp H.length ρ H w ρ' (H.set id (.own (splice (off + len * i.size) xs cs))) w' := by
  obtain ⟨L, ad, c, e1, rfl, l1, l2, l3, l4⟩ := hv
  have hxl : xs.length = n * i.size := by have := hs.newsLen; simp at this; rw [← this, hx.1]
  have hxl2 : off + len * i.size + xs.length ≤ cs.length := by rw [hxl, Nat.add_assoc, ← Nat.add_mul]; exact hl
  obtain ⟨hcl, cc, et, h1, h2, h3⟩ := hr.has id L _ e1 hd
  by_cases h0 : c = 0
  · subst h0
    have hl0 : len = 0 := by omega
    have hn0 : n = 0 := by omega
    subst hl0 hn0
    have hxs : xs = [] := List.eq_nil_of_length_eq_zero (by simpa using hxl)
    subst hxs
    have hset : H.set id (.own (splice (off + 0 * i.size) [] cs)) = H := by
      apply List.ext_getElem?
      intro j
      rw [List.getElem?_set]
      split
      · rename_i hj; subst hj; rw [if_pos (hr.dom id L e1), hd]; rfl
      · rfl
    rw [hset]
    exact ⟨_, w, ρ, run_append_empty (P := P) (w := w) t tx ty e i hu hi (some ad) 0 0 x us.toList hs (Nat.le_refl _), ⟨L, ad, 0, e1, rfl, l1, l2, l3, .inl rfl⟩, hr, Stp.refl _ _ _ _⟩
  · rcases l4 with l4 | ⟨l4, l5⟩
    · exact absurd l4 h0
    subst l4
    have hul : us.toList.length = xs.length := by simpa using hx.1
    obtain ⟨w', q1, q2, q3⟩ := rel_store (P := P) (off := off + len * i.size) hr e1 hd hx hxl2
    have hfit : L.o + off + len * i.size + us.toList.length ≤ cc.size := by omega
    have hrun := run_append_room_row (P := P) t tx ty e i hu hi L.b (L.o + off) len c x n us.toList hs (by omega) h1 hfit
    have hst := run_storeCells_at P L.b (L.o + off + len * i.size) et us.toList 0 cc w h1 (by simpa using hfit) hs.one
    simp only [Nat.add_zero] at hst
    rw [show L.o + (off + len * i.size) = L.o + off + len * i.size by omega, hst] at q1
    cases q1
    exact ⟨_, _, ρ, hrun, ⟨L, _, c, e1, rfl, hroom, l2, l3, .inr ⟨rfl, l5⟩⟩, q2, q3⟩
theorem fits2 {s x : Operand} {argTypes : Array TypeId} {b : Builtin} (hf : opFit N (.call ⟨.builtin b, #[s, x], argTypes⟩) = true) : Operand.fit N s = true ∧ Operand.fit N x = true := by
  simpa [opFit, Op.operands, Call.operands] using hf

theorem madeCells_zeros {z : List Sc} {zv : Array Value} (h : relL ρ z zv) (n k : Nat) (hk : k = n * z.length) : relL ρ (List.replicate n z).flatten (madeCells zv k) := relL_zeros h n k hk

/-- Appending where nothing is. -/
theorem append_fresh (hr : Rel ρ H w) {t tx ty e : TypeId} {i : TypeInfo} {zv : Value} (hu : P.underlying t = some (.slice e)) (hi : P.info? e = some i) (hz : i.zero = some zv) (hzs : zv.cells.size = i.size) (base : Option Addr)
    {x : Value} {n : Nat} {us : Array Value} {xs : List Sc} (hs : Src P i.size tx x n us.toList w) (hx : relL ρ xs us) (hn : n ≠ 0) (hb : n * i.bytes ≤ 140737488355328) (hm : n ≤ maxLen) :
    ∃ u w' ρ', (Builtin.append_ #[t, tx] ty #[.slice base 0 0, x]).run P w = .ok u w' ∧ relC ρ' (.sc (.sl H.length 0 i.size n n)) u ∧ Rel ρ' (H ++ [.own xs]) w' ∧ Stp H.length ρ H w ρ' (H ++ [.own xs]) w' := by
  have hf : (Builtin.firstCells i.size 0 (.slice base 0 0)).run P w.drew = .ok ([] : List Value).toArray w.drew := by
    cases base <;> simp [Builtin.firstCells, loadCells, loadCellsFrom]
  have hrun := run_append_grow_src (P := P) w t tx ty e i zv hu hi hz base 0 0 [] hf x n us.toList hs (by omega) (by unfold maxLen at hm; omega) (growslice_fits (by omega) (by rw [Nat.zero_add]; exact hb))
  have hxl : xs.length = n * i.size := by have := hs.newsLen; simp at this; rw [← this, hx.1]
  simp only [Nat.zero_add, List.nil_append] at hrun
  obtain ⟨ρ', q1, q2, q3⟩ := grow_block (e := e) (sCap := 0) (n := n) hr (olds := []) (uo := #[]) ⟨rfl, fun j x h => by simp at h⟩ hx zv.cells (us.toList.toArray ++ Builtin.zeroCells zv.cells (grownCap w n 0 e - n)) (by apply Array.ext'; simp) (by simpa using hxl) hzs hm
  exact ⟨_, _, ρ', hrun, q1, q2, q3⟩

theorem opM_sound (ht : TabOk P tab) (hs : Slots ρ N T a) (hr : Rel ρ H w) {o : Oper} (hf : opFit N o.op = true) {p : Prop} {v : AC} {H' : List Blk} (hq : opM tab T H o.op = some (p, v, H')) (hp : p) : Moves P a o w ρ H v H' := by
  obtain ⟨dst, op, ty, pos, after, guard⟩ := o
  simp only at hf hq
  have A : ∀ {x : Operand}, Operand.fit N x = true → (ev T x).gd = true → relC ρ (ev T x).ac (a.eval x) := fun h g => ac_rel hs h g
  unfold opM at hq
  split at hq
  · -- alloc
    rename_i e
    split at hq
    · rename_i i hi
      split at hq
      · rename_i cs hcs
        simp only [Option.some.injEq, Prod.mk.injEq] at hq; obtain ⟨rfl, rfl, rfl⟩ := hq
        obtain ⟨z, hz, hzr⟩ := (ht e i hi).zeroV (P := P) w
        obtain ⟨r1, r2⟩ := rel_alloc hr z.cells e cs (fun σ _ => cells_rel (hzr σ) hcs)
        refine moves_of rfl ⟨_, _, _, by simp [Instr.alloc, hz, newVar, newRow], ⟨_, Map.put_same _ _ _, rfl⟩, r1, r2⟩
      · cases hq
    · cases hq
  · -- box
    rename_i t x
    split at hq
    · rename_i cs hcs
      simp only [Option.some.injEq, Prod.mk.injEq] at hq; obtain ⟨rfl, rfl, rfl⟩ := hq
      have hv := A (fit1 hf rfl) hp
      obtain ⟨r1, r2⟩ := rel_alloc hr (a.eval x).cells t cs (fun σ hσ => cells_rel (relC_le hσ hv) hcs)
      refine moves_of rfl ⟨_, _, _, by simp [Instr.box, newVar, newRow], ⟨_, Map.put_same _ _ _, rfl⟩, r1, r2⟩
    · cases hq
  · -- buildSlice
    rename_i t len parts
    have hfp : (parts.toList.map (·.2)).all (Operand.fit N) = true := by simpa [opFit, Op.operands] using hf
    split at hq
    · rename_i i hi
      split at hq
      · rename_i e hk
        split at hq
        · rename_i ie hie
          split at hq
          · rename_i z hz
            obtain ⟨f, zv, z1, z2, z3, z4, z5⟩ := zero_of ht hie hz
            have hu := (ht t i hi).slice hk
            split at hq
            · rename_i h0
              subst h0
              split at hq
              · rename_i hpz
                subst hpz
                simp only [Option.some.injEq, Prod.mk.injEq] at hq; obtain ⟨rfl, rfl, rfl⟩ := hq
                have hrun : (Instr.buildSlice t 0 ((#[] : Array (Nat × Operand)).map fun q => (q.1, a.eval q.2))).run P w = .ok (.slice (some ⟨w.heap.size, 0, none⟩) 0 0) (w.alloc (.cells #[] e)) := by
                  simp [Instr.buildSlice, run_underlying hu, sizeOf, typeInfo, z1, Instr.fill, newRow, Array.range_zero']
                refine moves_of rfl ⟨_, _, ρ, hrun, ⟨_, rfl⟩, hr.world fun i L d e1 e2 e3 => Below.heap_alloc w _ _ (hr.lt e1 e2 e3), ?_⟩
                exact ⟨fun _ _ => rfl, rfl, rfl, rfl, by simp, fun b hb _ => Below.heap_alloc w _ _ hb, fun i L d e1 e2 e3 => .inl ⟨i, L, d, e1, e2, e3, rfl⟩⟩
              · cases hq
            · rename_i h0
              split at hq
              · rename_i cs hfl
                simp only [Option.some.injEq, Prod.mk.injEq] at hq; obtain ⟨rfl, rfl, rfl⟩ := hq
                obtain ⟨g1, g2, g3, g4⟩ := hp
                have hpr := parts_sound (ρ := ρ) hs hfp g1
                have hzz := relL_zeros (z5 ρ) len (len * f.size) (by rw [z2, g3])
                obtain ⟨os, ho, hro⟩ := fill_sound (fun _ _ h => h) _ _ _ _ _ hpr hzz hfl
                have hrun := run_buildSlice (P := P) w t e len (parts.map fun q => (q.1, a.eval q.2)) os f zv hu z1 z4 (by rw [z2]; omega) (by rw [z2]; exact Nat.mul_ne_zero h0 (by omega)) (by rw [← ho, z2]; simp)
                have hcl : cs.length = len * ie.size := by
                  have : ∀ (ps : List (Nat × AC)) (z out : List Sc), fillS (fun j => some (j * ie.size, ie.size)) z ps = some out → out.length = z.length := by
                    intro ps
                    induction ps with
                    | nil => intro z out h; simp only [fillS, Option.some.injEq] at h; rw [h]
                    | cons q ps ih =>
                      intro z out h
                      simp only [fillS] at h
                      split at h
                      · split at h
                        · rw [ih _ _ h, splice_length]
                        · cases h
                      · cases h
                  rw [this _ _ _ hfl, zeros_len, g3]
                obtain ⟨r1, r2⟩ := rel_alloc hr os e cs (fun σ hσ => relL_le hσ hro)
                refine moves_of rfl ⟨_, _, _, hrun, ⟨_, _, len, Map.put_same _ _ _, rfl, Nat.le_refl _, Nat.le_refl _, ?_, .inr ⟨rfl, by simp [hcl]⟩⟩, r1, r2⟩
                have : len * 1 ≤ len * ie.size := Nat.mul_le_mul_left _ g2
                unfold maxLen; omega
              · cases hq
          · cases hq
        · cases hq
      · cases hq
    · cases hq
  · -- makeSlice
    rename_i t l c
    obtain ⟨f1, f2⟩ := fit2 hf rfl
    split at hq
    · rename_i i kl l' kc c' hi hl hc
      split at hq
      · rename_i e hk
        split at hq
        · rename_i ie hie
          split at hq
          · rename_i z hz
            simp only [Option.some.injEq, Prod.mk.injEq] at hq; obtain ⟨rfl, rfl, rfl⟩ := hq
            obtain ⟨⟨g1, g2⟩, h1, h2, h3, h4, h5⟩ := hp
            obtain ⟨f, zv, z1, z2, z3, z4, z5⟩ := zero_of ht hie hz
            have hvl := A f1 g1
            have hvc := A f2 g2
            rw [hl] at hvl
            rw [hc] at hvc
            have hvl : a.eval l = .int kl l' := hvl
            have hvc : a.eval c = .int kc c' := hvc
            have hrun := run_make (P := P) w t e f zv ((ht t i hi).slice hk) z1 z4 kl kc l' c' h1 h2 (by rw [z3]; exact h4) h3
            have hlen : (List.replicate c'.toNat z).flatten.length = c'.toNat * ie.size := by rw [zeros_len, h5]
            obtain ⟨r1, r2⟩ := rel_alloc hr (madeCells zv.cells (c'.toNat * f.size)) e (List.replicate c'.toNat z).flatten (fun σ _ => madeCells_zeros (z5 σ) _ _ (by rw [z2, h5]))
            refine moves_of rfl ⟨_, _, _, by rw [hvl, hvc]; exact hrun, ⟨_, _, c'.toNat, Map.put_same _ _ _, rfl, by omega, Nat.le_refl _, by unfold maxLen; omega, .inr ⟨rfl, by simp [hlen]⟩⟩, r1, r2⟩
          · cases hq
        · cases hq
      · cases hq
    · cases hq
  · -- store
    rename_i t x y
    obtain ⟨f1, f2⟩ := fit2 hf rfl
    split at hq
    · rename_i i id off ys hi hx hy
      split at hq
      · rename_i cs hd
        simp only [Option.some.injEq, Prod.mk.injEq] at hq; obtain ⟨rfl, rfl, rfl⟩ := hq
        obtain ⟨⟨g1, g2⟩, h1, h2⟩ := hp
        have hvx := A f1 g1
        rw [hx] at hvx
        obtain ⟨L, e1, e2⟩ := relS_ptr hvx
        have hyr := cells_rel (A f2 g2) hy
        obtain ⟨w', hrun, r1, r2⟩ := rel_store (P := P) (cs := cs) (ys := ys) (off := off) hr e1 hd hyr (by omega)
        refine moves_of_unit rfl ⟨w', ρ, ?_, r1, r2⟩
        simp [Instr.storeAt, e2, Instr.sureAddr, storeVar, (ht t i hi).size, hyr.1, h1, hrun]
      · cases hq
    · cases hq
  · -- append
    rename_i args argTypes
    split at hq
    · rename_i s x t tx hargs' hats'
      have hargs : args = #[s, x] := by cases args; simp_all
      have hats : argTypes = #[t, tx] := by cases argTypes; simp_all
      subst hargs hats
      obtain ⟨f1, f2⟩ := fits2 hf
      have hex : ∀ {u w'}, (Builtin.append_ #[t, tx] ty #[a.eval s, a.eval x]).run P w = .ok u w' → (execOp a.eval ⟨dst, .call ⟨.builtin .append, #[s, x], #[t, tx]⟩, ty, pos, after, guard⟩).run P w = .ok (.value u) w' := fun h => by
        simp [execOp, resolve, invoke, builtin, h]
      have fin : ∀ {v : AC} {H' : List Blk}, (∃ u w' ρ', (Builtin.append_ #[t, tx] ty #[a.eval s, a.eval x]).run P w = .ok u w' ∧ relC ρ' v u ∧ Rel ρ' H' w' ∧ Stp H.length ρ H w ρ' H' w') → Moves P a ⟨dst, .call ⟨.builtin .append, #[s, x], #[t, tx]⟩, ty, pos, after, guard⟩ w ρ H v H' := by
        rintro v H' ⟨u, w', ρ', q1, q2, q3, q4⟩
        exact ⟨_, w', ρ', hex q1, ⟨u, .inl rfl, q2⟩, q3, q4⟩
      split at hq
      · rename_i i ix hi hix
        split at hq
        · rename_i e hk
          have hu := (ht t i hi).slice hk
          split at hq
          · rename_i ie hie
            split at hq
            · -- zeros
              rename_i kx kn n hkx hx
              split at hq
              · rename_i z hsn hz
                simp only [Option.some.injEq, Prod.mk.injEq] at hq; obtain ⟨rfl, rfl, rfl⟩ := hq
                obtain ⟨⟨g1, g2⟩, h1, h2, h3, h4, h5⟩ := hp
                obtain ⟨f, zv, z1, z2, z3, z4, z5⟩ := zero_of ht hie hz
                have hvs := A f1 g1
                have hvx := A f2 g2
                rw [hsn] at hvs
                rw [hx] at hvx
                have hvs : a.eval s = .slice none 0 0 := hvs
                have hvx : a.eval x = .int kn n := hvx
                refine fin ?_
                rw [hvs, hvx]
                have hnn : (n.toNat : Int) = n := by omega
                have hrun := Lib.run_append_nil_zeros (P := P) w t tx ty e f zv kn kx hu ((ht tx ix hix).int hkx) z1 z4 n.toNat (by omega) (by omega) (by omega) (by
                  have : (n.toNat : Int) * f.bytes ≤ 281474976710656 := by rw [hnn, z3]; exact h4
                  have e2 : ((n.toNat * f.bytes : Nat) : Int) ≤ 281474976710656 := by rw [Int.natCast_mul]; exact this
                  omega)
                rw [hnn] at hrun
                have hzl : zv.cells.size = ie.size := by rw [(z5 ρ).1, h5]
                have hxl : (List.replicate n.toNat z).flatten.length = n.toNat * ie.size := by rw [zeros_len, h5]
                have hzr : relL ρ (List.replicate n.toNat z).flatten (Builtin.zeroCells zv.cells n.toNat) := relL_zeros (z5 ρ) _ _ (by rw [(z5 ρ).1])
                obtain ⟨ρ', q1, q2, q3⟩ := grow_block (e := e) (sCap := 0) (n := n.toNat) hr (olds := []) (uo := #[]) ⟨rfl, fun j x h => by simp at h⟩ hzr zv.cells (size := ie.size) _ (by rw [Array.empty_append]) (by simpa using hxl) hzl (by unfold maxLen; omega)
                exact ⟨_, _, ρ', hrun, q1, q2, q3⟩
              · cases hq
            · -- a slice or a string
              split at hq
              · rename_i p' n xs hsrc
                split at hq
                · -- to nil
                  rename_i hsn
                  simp only [Option.some.injEq, Prod.mk.injEq] at hq; obtain ⟨rfl, rfl, rfl⟩ := hq
                  obtain ⟨⟨g1, g2⟩, h1, h2, h3⟩ := hp
                  obtain ⟨us, hS, hux, hfst⟩ := srcC_sound (P := P) ht hix hr (A f2 g2) hsrc h1
                  have hvs := A f1 g1
                  rw [hsn] at hvs
                  have hvs : a.eval s = .slice none 0 0 := hvs
                  refine fin ?_
                  rw [hvs]
                  obtain ⟨z, hz, hzl⟩ := (ht e ie hie).zlen
                  obtain ⟨f, zv, z1, z2, z3, z4, z5⟩ := zero_of ht hie hz
                  rw [← z2] at hS
                  by_cases h0 : n = 0
                  · subst h0
                    simp only [if_true]
                    exact ⟨_, w, ρ, run_append_empty (P := P) (w := w) t tx ty e f hu z1 none 0 0 _ us.toList hS (Nat.le_refl _), rfl, hr, Stp.refl _ _ _ _⟩
                  · simp only [if_neg h0]
                    rw [← z2]
                    exact append_fresh (P := P) hr hu z1 z4 (by rw [(z5 ρ).1, hzl, z2]) none hS hux h0 (by rw [z3]; exact h2) h3
                · rename_i hsn
                  simp only [Option.some.injEq, Prod.mk.injEq] at hq; obtain ⟨rfl, rfl, rfl⟩ := hq
                  obtain ⟨⟨g1, g2⟩, h1, h2, h3⟩ := hp
                  obtain ⟨us, hS, hux, hfst⟩ := srcC_sound (P := P) ht hix hr (A f2 g2) hsrc h1
                  have hvs := A f1 g1
                  rw [hsn] at hvs
                  obtain ⟨ad, hvs⟩ := hvs
                  refine fin ?_
                  rw [hvs]
                  obtain ⟨z, hz, hzl⟩ := (ht e ie hie).zlen
                  obtain ⟨f, zv, z1, z2, z3, z4, z5⟩ := zero_of ht hie hz
                  rw [← z2] at hS
                  by_cases h0 : n = 0
                  · subst h0
                    simp only [if_true]
                    exact ⟨_, w, ρ, run_append_empty (P := P) (w := w) t tx ty e f hu z1 (some ad) 0 0 _ us.toList hS (Nat.le_refl _), ⟨ad, rfl⟩, hr, Stp.refl _ _ _ _⟩
                  · simp only [if_neg h0]
                    rw [← z2]
                    exact append_fresh (P := P) hr hu z1 z4 (by rw [(z5 ρ).1, hzl, z2]) (some ad) hS hux h0 (by rw [z3]; exact h2) h3
                · -- to a slice of one's own
                  rename_i id off es len cap hsn
                  split at hq
                  · rename_i cs hd
                    split at hq
                    · rename_i hroom
                      simp only [Option.some.injEq, Prod.mk.injEq] at hq; obtain ⟨rfl, rfl, rfl⟩ := hq
                      obtain ⟨⟨g1, g2⟩, h1, h2, h3⟩ := hp
                      obtain ⟨us, hS, hux, hfst⟩ := srcC_sound (P := P) ht hix hr (A f2 g2) hsrc h1
                      have hvs := A f1 g1
                      rw [hsn] at hvs
                      obtain ⟨z, hz, hzl⟩ := (ht e ie hie).zlen
                      obtain ⟨f, zv, z1, z2, z3, z4, z5⟩ := zero_of ht hie hz
                      rw [← z2] at hS h2
                      subst h2
                      refine fin ?_
                      exact append_in (P := P) hr hu z1 hvs hd hS hux hroom h3
                    · simp only [Option.some.injEq, Prod.mk.injEq] at hq; obtain ⟨rfl, rfl, rfl⟩ := hq
                      obtain ⟨⟨g1, g2⟩, h1, h2, h3, h4, h5⟩ := hp
                      obtain ⟨us, hS, hux, hfst⟩ := srcC_sound (P := P) ht hix hr (A f2 g2) hsrc h1
                      have hvs := A f1 g1
                      rw [hsn] at hvs
                      obtain ⟨z, hz, hzl⟩ := (ht e ie hie).zlen
                      obtain ⟨f, zv, z1, z2, z3, z4, z5⟩ := zero_of ht hie hz
                      rw [← z2] at hS h2 ⊢
                      subst h2
                      refine fin ?_
                      exact append_own (P := P) hr hu z1 z4 (by rw [(z5 ρ).1, hzl, z2]) hvs hd h3 hS hux (by rw [z3]; exact h4) h5
                  · cases hq
                · cases hq
              · cases hq
          · cases hq
        · cases hq
      · cases hq
    · cases hq
  · -- copy
    rename_i args argTypes
    split at hq
    · rename_i s x t tx hargs' hats'
      have hargs : args = #[s, x] := by cases args; simp_all
      have hats : argTypes = #[t, tx] := by cases argTypes; simp_all
      subst hargs hats
      obtain ⟨f1, f2⟩ := fits2 hf
      have hex : ∀ {u w'}, (Builtin.copy_ #[t, tx] ty #[a.eval s, a.eval x]).run P w = .ok u w' → (execOp a.eval ⟨dst, .call ⟨.builtin .copy, #[s, x], #[t, tx]⟩, ty, pos, after, guard⟩).run P w = .ok (.value u) w' := fun h => by
        simp [execOp, resolve, invoke, builtin, h]
      split at hq
      · rename_i i ix hi hix
        split at hq
        · rename_i e hk
          have hu := (ht t i hi).slice hk
          split at hq
          · rename_i ie hie
            split at hq
            · rename_i p' n xs hsrc
              have none0 : ∀ {base : Option Addr} {us : List Value}, a.eval s = .slice base 0 0 → Src P ie.size tx (a.eval x) n us w → (Builtin.copy_ #[t, tx] ty #[a.eval s, a.eval x]).run P w = .ok (.int .i64 0) w := fun {base us} hb hS => by
                obtain ⟨f, z1, z2, _⟩ := (ht e ie hie).info
                have hfc : (Builtin.firstCells ie.size 0 (a.eval x)).run P w = .ok #[] w := by
                  have hl := hS.len w
                  cases hv : a.eval x <;> rw [hv] at hl <;> simp [Builtin.lenOf] at hl
                  · simp [Builtin.firstCells]
                  · rename_i ad _ _; cases ad <;> simp [Builtin.firstCells, loadCells, loadCellsFrom]
                rw [hb]
                simp [Builtin.copy_, run_underlying hu, hS.len, sizeOf, typeInfo, z1, z2, hfc]
                cases base <;> simp [storeCells, goInt]
              split at hq
              · rename_i hsn
                simp only [Option.some.injEq, Prod.mk.injEq] at hq; obtain ⟨rfl, rfl, rfl⟩ := hq
                obtain ⟨⟨g1, g2⟩, h1⟩ := hp
                obtain ⟨us, hS, hux, hfst⟩ := srcC_sound (P := P) ht hix hr (A f2 g2) hsrc h1
                have hvs := A f1 g1
                rw [hsn] at hvs
                exact ⟨_, w, ρ, hex (none0 (base := none) hvs hS), ⟨_, .inl rfl, rfl⟩, hr, Stp.refl _ _ _ _⟩
              · rename_i hsn
                simp only [Option.some.injEq, Prod.mk.injEq] at hq; obtain ⟨rfl, rfl, rfl⟩ := hq
                obtain ⟨⟨g1, g2⟩, h1⟩ := hp
                obtain ⟨us, hS, hux, hfst⟩ := srcC_sound (P := P) ht hix hr (A f2 g2) hsrc h1
                have hvs := A f1 g1
                rw [hsn] at hvs
                obtain ⟨ad, hvs⟩ := hvs
                exact ⟨_, w, ρ, hex (none0 (base := some ad) hvs hS), ⟨_, .inl rfl, rfl⟩, hr, Stp.refl _ _ _ _⟩
              · rename_i id off es len cap hsn
                split at hq
                · rename_i cs hd
                  simp only [Option.some.injEq, Prod.mk.injEq] at hq; obtain ⟨rfl, rfl, rfl⟩ := hq
                  obtain ⟨⟨g1, g2⟩, h1, rfl, h3, h4⟩ := hp
                  obtain ⟨us, hS, hux, hfst⟩ := srcC_sound (P := P) ht hix hr (A f2 g2) hsrc h1
                  have hvs := A f1 g1
                  rw [hsn] at hvs
                  obtain ⟨L, ad, c, e1, e2, l1, l2, l3, l4⟩ := hvs
                  rcases l4 with l4 | ⟨l4, _⟩
                  · omega
                  subst l4
                  obtain ⟨f, z1, z2, _⟩ := (ht e ie hie).info
                  have hxl : xs.length = n * ie.size := by have := hS.newsLen; simp at this; rw [← this, hux.1]
                  have hmn : Nat.min n len * ie.size ≤ n * ie.size := Nat.mul_le_mul_right _ (Nat.min_le_left _ _)
                  have hml : Nat.min n len * ie.size ≤ len * ie.size := Nat.mul_le_mul_right _ (Nat.min_le_right _ _)
                  have hx2 : relL ρ (xs.take (Nat.min n len * ie.size)) (us.extract 0 (Nat.min n len * ie.size)) := by
                    have hc0 : cellsAt ρ us 0 xs := cellsAt_of_relL hux
                    simpa using relL_slice hc0 0 (Nat.min n len * ie.size) (by omega)
                  have htl : (xs.take (Nat.min n len * ie.size)).length = Nat.min n len * ie.size := by simp; omega
                  obtain ⟨w', hrun, r1, r2⟩ := rel_store (P := P) (off := off) (L := L) hr e1 hd hx2 (by omega)
                  have hfc : (Builtin.firstCells ie.size (Nat.min n len) (a.eval x)).run P w = .ok (us.extract 0 (Nat.min n len * ie.size)) w := hfst _ (Nat.min_le_left _ _)
                  refine ⟨_, w', ρ, hex (u := .int .i64 (Nat.min n len : Nat)) ?_, ⟨_, .inl rfl, rfl⟩, r1, r2⟩
                  rw [e2]
                  simp only [Builtin.copy_, run_underlying hu, hS.len, sizeOf, typeInfo, z1, z2, hfc, Sem.run_bind, Result.andThen_ok, Sem.run_pure, run_program, List.getElem?_toArray, List.getElem?_cons_zero, List.getElem?_cons_succ, hrun, goInt]
                · cases hq
              · cases hq
            · cases hq
          · cases hq
        · cases hq
      · cases hq
    · cases hq
  · -- clear
    rename_i args argTypes
    split at hq
    · rename_i s t hargs' hats'
      have hargs : args = #[s] := by cases args; simp_all
      have hats : argTypes = #[t] := by cases argTypes; simp_all
      subst hargs hats
      have f1 : Operand.fit N s = true := by simpa [opFit, Op.operands, Call.operands] using hf
      have hex : ∀ {u w'}, (Builtin.clear_ #[t] ty #[a.eval s]).run P w = .ok u w' → (execOp a.eval ⟨dst, .call ⟨.builtin .clear, #[s], #[t]⟩, ty, pos, after, guard⟩).run P w = .ok (.value u) w' := fun h => by
        simp [execOp, resolve, invoke, builtin, h]
      split at hq
      · rename_i i hi
        split at hq
        · rename_i e hk
          have hu := (ht t i hi).slice hk
          split at hq
          · rename_i ie hie
            split at hq
            · rename_i z hz hsn
              simp only [Option.some.injEq, Prod.mk.injEq] at hq; obtain ⟨rfl, rfl, rfl⟩ := hq
              have hvs := A f1 hp
              rw [hsn] at hvs
              have hvs : a.eval s = .slice none 0 0 := hvs
              exact ⟨_, w, ρ, hex (u := .tuple #[]) (by rw [hvs]; simp [Builtin.clear_, run_underlying hu]), ⟨_, .inl rfl, trivial⟩, hr, Stp.refl _ _ _ _⟩
            · rename_i z hz hsn
              simp only [Option.some.injEq, Prod.mk.injEq] at hq; obtain ⟨rfl, rfl, rfl⟩ := hq
              have hvs := A f1 hp
              rw [hsn] at hvs
              obtain ⟨ad, hvs⟩ := hvs
              exact ⟨_, w, ρ, hex (u := .tuple #[]) (by rw [hvs]; simp [Builtin.clear_, run_underlying hu]), ⟨_, .inl rfl, trivial⟩, hr, Stp.refl _ _ _ _⟩
            · rename_i z id off es len cap hz hsn
              split at hq
              · rename_i cs hd
                simp only [Option.some.injEq, Prod.mk.injEq] at hq; obtain ⟨rfl, rfl, rfl⟩ := hq
                obtain ⟨g1, rfl, h2, h3⟩ := hp
                have hvs := A f1 g1
                rw [hsn] at hvs
                obtain ⟨L, ad, c, e1, e2, l1, l2, l3, l4⟩ := hvs
                obtain ⟨f, zv, z1, z2, z3, z4, z5⟩ := zero_of ht hie hz
                by_cases h0 : len = 0
                · subst h0
                  refine ⟨_, w, ρ, hex (u := .tuple #[]) (by rw [e2]; simp [Builtin.clear_, run_underlying hu]), ⟨_, .inl rfl, trivial⟩, ?_, ?_⟩
                  · have : splice off (List.replicate 0 z).flatten cs = cs := by simp [splice]
                    rw [this, set_self hd]; exact hr
                  · have : splice off (List.replicate 0 z).flatten cs = cs := by simp [splice]
                    rw [this, set_self hd]; exact Stp.refl _ _ _ _
                · rcases l4 with l4 | ⟨l4, _⟩
                  · omega
                  subst l4
                  have hzr : relL ρ (List.replicate len z).flatten (Builtin.zeroCells zv.cells len) := relL_zeros (z5 ρ) _ _ (by rw [(z5 ρ).1])
                  obtain ⟨w', hrun, r1, r2⟩ := rel_store (P := P) (off := off) (L := L) hr e1 hd hzr (by rw [zeros_len, h2]; exact h3)
                  refine ⟨_, w', ρ, hex (u := .tuple #[]) ?_, ⟨_, .inl rfl, trivial⟩, r1, r2⟩
                  rw [e2]
                  obtain ⟨m, rfl⟩ : ∃ m, len = m + 1 := ⟨len - 1, by omega⟩
                  simp [Builtin.clear_, run_underlying hu, zeroValue, typeInfo, z1, z4, hrun]
              · cases hq
            · cases hq
          · cases hq
        · cases hq
      · cases hq
    · cases hq
  · cases hq
end
end Go.Proofs.Ytjjhogleiolngaa
