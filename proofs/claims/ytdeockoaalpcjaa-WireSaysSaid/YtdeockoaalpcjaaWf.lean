/- WireSays: wire.Pack, partref.NoteText. -/
import Derived.Test.YtdeockoaalpcjaaWe
namespace Go.Proofs.Ytdeockoaalpcjaa
set_option linter.unusedSimpArgs false
set_option linter.unusedVariables false
open Go.RowKit
attribute [local irreducible] AWP ACalls Wk GcTo
attribute [local simp] tab3 ti3 tab9 ti9 tab5 ti5 tab81 ti81 tab74 ti74 tab38 ti38 tab24 ti24 tab187 ti187 tab25 ti25 tab22 ti22
open Wi
namespace Nt
variable (p : Nt)
def hd3 : List UInt8 := [UInt8.ofNat p.kind.toNat, UInt8.ofNat p.src.toNat, UInt8.ofNat p.dst.toNat]
def nums : List Int := [p.view, p.seq, p.at_ 0, p.at_ 1, p.at_ 2, p.at_ 3, p.at_ 4, p.at_ 5]
def body (i : Nat) : List UInt8 := p.hd3 ++ (p.nums.take i).flatMap fun x => le 3 x.toNat
def out : List UInt8 := p.body 8 ++ p.text.data.toList
def sum : Nat := crc ⟨p.out.toArray⟩
def pack : ByteArray := ⟨(p.out ++ le 4 p.sum).toArray⟩
structure Good : Prop where
  kind : 0 ≤ p.kind ∧ p.kind ≤ 255
  src : 0 ≤ p.src ∧ p.src ≤ 5
  dst : 0 ≤ p.dst ∧ p.dst ≤ 5
  nums : ∀ x ∈ p.nums, 0 ≤ x ∧ x ≤ 16777215
  text : p.text.size ≤ 200
theorem good_of (h : p.err = 0) : p.Good := by
  unfold err at h
  split at h
  · cases h
  · rename_i hb
    have hat : ∀ n j, p.atBad n j = 0 → (∀ i, j ≤ i → i < j + n → 0 ≤ p.at_ i ∧ p.at_ i ≤ 16777215) ∧ p.text.size ≤ 200 := by
      intro n
      induction n with
      | zero => intro j h; simp only [atBad] at h; split at h
                · cases h
                · exact ⟨fun i a b => by omega, by omega⟩
      | succ n ih =>
        intro j h
        unfold atBad at h
        split at h
        · cases h
        · rename_i hv
          obtain ⟨a, b⟩ := ih _ h
          refine ⟨fun i h1 h2 => ?_, b⟩
          by_cases e : i = j
          · subst e; omega
          · exact a i (by omega) (by omega)
    obtain ⟨h1, h2⟩ := hat 6 0 h
    unfold headBad at hb
    refine ⟨by omega, by omega, by omega, fun x hx => ?_, h2⟩
    simp only [nums, List.mem_cons, List.not_mem_nil, or_false] at hx
    rcases hx with rfl | rfl | rfl | rfl | rfl | rfl | rfl | rfl
    · omega
    · omega
    · exact h1 0 (by omega) (by omega)
    · exact h1 1 (by omega) (by omega)
    · exact h1 2 (by omega) (by omega)
    · exact h1 3 (by omega) (by omega)
    · exact h1 4 (by omega) (by omega)
    · exact h1 5 (by omega) (by omega)
theorem hd_cells {p : Nt} (h : p.Good) : bytesC p.hd3 = [.int .u8 p.kind, .int .u8 p.src, .int .u8 p.dst] := by
  have h1 := h.kind
  have h2 := h.src
  have h3 := h.dst
  simp [hd3, bytesC]; omega
theorem body_len (i : Nat) (h : i ≤ 8) : (p.body i).length = 3 + 3 * i := by
  match i, h with
  | 0, _ => rfl
  | 1, _ => rfl
  | 2, _ => rfl
  | 3, _ => rfl
  | 4, _ => rfl
  | 5, _ => rfl
  | 6, _ => rfl
  | 7, _ => rfl
  | 8, _ => rfl
theorem out_len : p.out.length = 27 + p.text.size := by unfold out; rw [List.length_append, p.body_len 8 (by omega)]; rfl
theorem body_succ {i : Nat} {x : Int} (h : p.nums[i]? = some x) : p.body (i + 1) = p.body i ++ le 3 x.toNat := by
  unfold body; rw [take_snoc h, List.flatMap_append, List.append_assoc]; simp
end Nt
theorem wrap_u8i {x : Int} (h0 : 0 ≤ x) (h1 : x ≤ 255) : IntKind.u8.wrap x = x := by
  simp only [IntKind.wrap, IntKind.signed, IntKind.bits]; simp; omega
set_option maxRecDepth 100000 in
set_option maxHeartbeats 1000000 in
theorem wirePack {H : List Blk} {p : Nt} {Q : AV → List Blk → Prop} (q0 : ¬p.err = 0 → Q (.tup [.sc (.str ⟨#[]⟩), .sc (.int .i64 p.err)]) H) (q1 : p.err = 0 → Q (.tup [.sc (.str p.pack), .sc (.int .i64 0)]) H) :
    ACalls Try.prog 44 [.agg p.cs] H Q := by
  refine acalls_of tabOk Try.func44 (by kernel_rfl) rfl (by kernel_rfl) ?_
  (repeat' (first | refine awp_seq ?_ | (refine awp_region tabOk ?_; simp) | (refine awp_if ?_; simp) | refine awp_block ?_ | refine And.intro ?_ ?_ | intro _ | (refine awp_skip ?_; simp) | (refine awp_ret ?_; simp) | (refine awp_exit ?_; simp)))
  refine wireCheck ?_
  by_cases he : p.err = 0
  · have q := q1 he
    have hG := p.good_of he
    have k1 := wrap_u8i hG.kind.1 hG.kind.2
    have k2 := wrap_u8i hG.src.1 (by have := hG.src.2; omega)
    have k3 := wrap_u8i hG.dst.1 (by have := hG.dst.2; omega)
    have hhd := Nt.hd_cells hG
    ((try simp [he, k1, k2, k3]); (repeat' (first | refine awp_seq ?_ | (refine awp_region tabOk ?_; simp [he, k1, k2, k3]) | (refine awp_if ?_; simp [he, k1, k2, k3]) | refine awp_block ?_ | refine And.intro ?_ ?_ | intro _ | (refine awp_skip ?_; simp [he, k1, k2, k3]) | (refine awp_ret ?_; simp [he, k1, k2, k3]) | (refine awp_exit ?_; simp [he, k1, k2, k3]))))
    refine awp_draw tabOk mixed [] (by kernel_rfl) ?_
    simp [maxLen]
    (repeat' (first | refine awp_seq ?_ | (refine awp_region tabOk ?_; simp) | (refine awp_if ?_; simp) | refine awp_block ?_ | refine And.intro ?_ ?_ | intro _ | (refine awp_skip ?_; simp) | (refine awp_ret ?_; simp) | (refine awp_exit ?_; simp)))
    refine awp_loop_at (α := {i : Nat // i ≤ 8}) (fun i => [(1, .c (.sc (.ptr H.length 0))), (5, .c (.sc (.sl (H.length + 1) 0 1 (3 + 3 * i.1) (3 + 3 * i.1)))), (30, .c (.sc (.sl (H.length + 2) 0 1 8 8))), (31, .c (.sc (.int .i64 8))), (32, .c (.sc (.int .i64 i.1)))])
      (fun i => H ++ [.own p.cs, .own (bytesC (p.body i.1)), .own (intsC p.nums)]) (fun i => 8 - i.1) ⟨0, by omega⟩ (wk_gcl [0, 1, 3] (gcOk_of (by decide) (by simp [Nt.body, hhd, Mt.vs, intsC, Nt.nums])) (by simp)) ?_
    rintro ⟨i, hi⟩
    by_cases hlt : i < 8
    · obtain ⟨x, hx⟩ : ∃ x, p.nums[i]? = some x := ⟨p.nums[i]'(by rw [show p.nums.length = 8 from rfl]; exact hlt), List.getElem?_eq_getElem _⟩
      have hxb := hG.nums x (List.mem_of_getElem? hx)
      have hxc := intsC_at _ hx
      obtain ⟨_, hxc2⟩ := List.getElem?_eq_some_iff.1 hxc
      have hi8 : (i : Int) < 8 := by omega
      obtain ⟨n, rfl⟩ := Int.eq_ofNat_of_zero_le hxb.1
      have wx := wrap_u32 (n := n) (by omega)
      have wi := wrapS i (by omega)
      have hbs := p.body_succ hx
      rw [Int.toNat_natCast] at hbs
      have hbl := p.body_len i (by omega)
      (repeat' (first | refine awp_seq ?_ | (refine awp_region tabOk ?_; simp [hlt, hi8, hxc, hxc2, wx]) | (refine awp_if ?_; simp [hlt, hi8, hxc, hxc2, wx]) | refine awp_block ?_ | refine And.intro ?_ ?_ | intro _ | (refine awp_skip ?_; simp [hlt, hi8, hxc, hxc2, wx]) | (refine awp_ret ?_; simp [hlt, hi8, hxc, hxc2, wx]) | (refine awp_exit ?_; simp [hlt, hi8, hxc, hxc2, wx])))
      refine wirePut3 (n := n) (l := p.body i) ?_ (by rw [hbl]) ?_ ?_ ?_
      · simp
      · omega
      · omega
      ((try simp [show H.length + 3 + 5 = H.length + 8 from rfl]); (repeat' (first | refine awp_seq ?_ | (refine awp_region tabOk ?_; simp [show H.length + 3 + 5 = H.length + 8 from rfl]) | (refine awp_if ?_; simp [show H.length + 3 + 5 = H.length + 8 from rfl]) | refine awp_block ?_ | refine And.intro ?_ ?_ | intro _ | (refine awp_skip ?_; simp [show H.length + 3 + 5 = H.length + 8 from rfl]) | (refine awp_ret ?_; simp [show H.length + 3 + 5 = H.length + 8 from rfl]) | (refine awp_exit ?_; simp [show H.length + 3 + 5 = H.length + 8 from rfl]))))
      refine ⟨i + 1, by omega, by omega, ?_⟩
      rw [hbs]
      have e3 : 3 + 3 * (i + 1) = 3 + 3 * i + 3 := by omega
      exact wk_gcl [0, 8, 2] (gcOk_of (by decide) (by simp)) (by simp [wi, e3])
    · obtain rfl : i = 8 := by omega
      have hbl := p.body_len 8 (by omega)
      have hbl2 : (bytesC (p.body 8)).length = 27 := by rw [bytesC_len, hbl]
      have ht := hG.text
      have hsd : p.text.data.size = p.text.size := rfl
      have tk1 : (bytesC (p.body 8)).take 27 = bytesC (p.body 8) := List.take_of_length_le (by rw [hbl2]; exact Nat.le_refl _)
      have happ : bytesC (p.body 8) ++ p.text.data.toList.map (fun b => Sc.int .u8 b.toNat) = bytesC p.out := by unfold Nt.out; rw [bytesC_app]; rfl
      have hol := p.out_len
      have tk2 : (bytesC p.out).take (27 + p.text.size) = bytesC p.out := List.take_of_length_le (by rw [bytesC_len, hol]; exact Nat.le_refl _)
      have to8 := bytesC_to p.out
      have hu8 := List.all_eq_true.1 (bytesC_u8 p.out)
      have hcl := crc_lt ⟨p.out.toArray⟩
      (repeat' (first | refine awp_seq ?_ | (refine awp_region tabOk ?_; simp [hbl, hbl2, tk1, maxLen, happ, tk2, to8]) | (refine awp_if ?_; simp [hbl, hbl2, tk1, maxLen, happ, tk2, to8]) | refine awp_block ?_ | refine And.intro ?_ ?_ | intro _ | (refine awp_skip ?_; simp [hbl, hbl2, tk1, maxLen, happ, tk2, to8]) | (refine awp_ret ?_; simp [hbl, hbl2, tk1, maxLen, happ, tk2, to8]) | (refine awp_exit ?_; simp [hbl, hbl2, tk1, maxLen, happ, tk2, to8])))
      · omega
      · omega
      · omega
      · rename_i x hx; exact hu8 x hx
      refine wireSum ?_ ?_
      · show p.out.toArray.size ≤ _
        simp; omega
      ((try simp); (repeat' (first | refine awp_seq ?_ | (refine awp_region tabOk ?_; simp) | (refine awp_if ?_; simp) | refine awp_block ?_ | refine And.intro ?_ ?_ | intro _ | (refine awp_skip ?_; simp) | (refine awp_ret ?_; simp) | (refine awp_exit ?_; simp))))
      refine wirePut4 (n := p.sum) (l := p.out) ?_ ?_ ?_ hcl ?_
      · simp
      · rw [hol]
      · omega
      have hol2 : (p.out ++ le 4 p.sum).length = 27 + p.text.size + 4 := by rw [List.length_append, hol]; simp
      have tk3 : (bytesC (p.out ++ le 4 p.sum)).take (27 + p.text.size + 4) = bytesC (p.out ++ le 4 p.sum) := List.take_of_length_le (by rw [bytesC_len, hol2]; exact Nat.le_refl _)
      have to9 := bytesC_to (p.out ++ le 4 p.sum)
      have hu9 := List.all_eq_true.1 (bytesC_u8 (p.out ++ le 4 p.sum))
      unfold Nt.pack at q
      generalize p.out ++ le 4 p.sum = Z at *
      ((try simp [tk3, to9, hol2, show H.length + 4 + 7 = H.length + 11 from rfl]); (repeat' (first | refine awp_seq ?_ | (refine awp_region tabOk ?_; simp [tk3, to9, hol2, show H.length + 4 + 7 = H.length + 11 from rfl]) | (refine awp_if ?_; simp [tk3, to9, hol2, show H.length + 4 + 7 = H.length + 11 from rfl]) | refine awp_block ?_ | refine And.intro ?_ ?_ | intro _ | (refine awp_skip ?_; simp [tk3, to9, hol2, show H.length + 4 + 7 = H.length + 11 from rfl]) | (refine awp_ret ?_; simp [tk3, to9, hol2, show H.length + 4 + 7 = H.length + 11 from rfl]) | (refine awp_exit ?_; simp [tk3, to9, hol2, show H.length + 4 + 7 = H.length + 11 from rfl]))))
      · rename_i x hx; exact hu9 x hx
      · refine ⟨H, _, gcTo_none (fun _ => rfl), ?_⟩
        rw [List.take_of_length_le (by rw [hol2]; exact Nat.le_refl _)]
        exact q
  · ((try simp [he]); (repeat' (first | refine awp_seq ?_ | (refine awp_region tabOk ?_; simp [he]) | (refine awp_if ?_; simp [he]) | refine awp_block ?_ | refine And.intro ?_ ?_ | intro _ | (refine awp_skip ?_; simp [he]) | (refine awp_ret ?_; simp [he]) | (refine awp_exit ?_; simp [he]))))
    exact ⟨H, _, gcTo_none (fun _ => rfl), q0 he⟩
theorem le3_cells (n : Nat) (h : n ≤ 16777215) : bytesC (le 3 n) = [.int .u8 ((n : Int) % 256), .int .u8 ((n : Int) / 256 % 256), .int .u8 ((n : Int) / 65536)] := by
  simp only [le, bytesC, List.map_cons, List.map_nil, UInt8.toNat_ofNat', List.cons.injEq, Sc.int.injEq, true_and, and_true]
  omega
theorem le4_cells (n : Nat) (h : n < 4294967296) : bytesC (le 4 n) = [.int .u8 ((n : Int) % 256), .int .u8 ((n : Int) / 256 % 256), .int .u8 ((n : Int) / 65536 % 256), .int .u8 ((n : Int) / 16777216)] := by
  simp only [le, bytesC, List.map_cons, List.map_nil, UInt8.toNat_ofNat', List.cons.injEq, Sc.int.injEq, true_and, and_true]
  omega
set_option maxRecDepth 100000 in
set_option maxHeartbeats 1000000 in
theorem noteText {H : List Blk} {p : Nt} {Q : AV → List Blk → Prop} (he : p.err = 0) (q : Q (.c (.sc (.str p.pack))) H) :
    ACalls Try.prog 45 [.agg p.cs] H Q := by
  refine acalls_of tabOk Try.func45 (by kernel_rfl) rfl (by kernel_rfl) ?_
  have hG := p.good_of he
  have k1 := wrap_u8i hG.kind.1 hG.kind.2
  have k2 := wrap_u8i hG.src.1 (by have := hG.src.2; omega)
  have k3 := wrap_u8i hG.dst.1 (by have := hG.dst.2; omega)
  have hhd := Nt.hd_cells hG
  (repeat' (first | refine awp_seq ?_ | (refine awp_region tabOk ?_; simp [k1, k2, k3]) | (refine awp_if ?_; simp [k1, k2, k3]) | refine awp_block ?_ | refine And.intro ?_ ?_ | intro _ | (refine awp_skip ?_; simp [k1, k2, k3]) | (refine awp_ret ?_; simp [k1, k2, k3]) | (refine awp_exit ?_; simp [k1, k2, k3])))
  refine awp_draw tabOk mixed [] (by kernel_rfl) ?_
  simp [maxLen]
  refine ⟨_, [.own (intsC p.nums)], concat2 (g := H.length + 3) (a := .sl (H.length + 2) 0 1 2 2) (b := .sl H.length 5 1 6 6) (xs := [p.view, p.seq]) (ys := [p.at_ 0, p.at_ 1, p.at_ 2, p.at_ 3, p.at_ 4, p.at_ 5]) ?_ ?_ (.inr ⟨H.length, 5, 6, p.cs, rfl, by simp, by simp, by simp, fun i x hx => ?_⟩) (by simp) (by simp) ⟨rfl, by simp [Nt.nums]⟩, ?_⟩
  · simp
  · exact ISl.ownC (xs := [p.view, p.seq]) (by simp [intsC])
  · have hi := (List.getElem?_eq_some_iff.1 hx).1
    simp at hi
    match i, hi with
    | 0, _ => cases hx; rfl
    | 1, _ => cases hx; rfl
    | 2, _ => cases hx; rfl
    | 3, _ => cases hx; rfl
    | 4, _ => cases hx; rfl
    | 5, _ => cases hx; rfl
  simp
  (repeat' (first | refine awp_seq ?_ | (refine awp_region tabOk ?_; simp) | (refine awp_if ?_; simp) | refine awp_block ?_ | refine And.intro ?_ ?_ | intro _ | (refine awp_skip ?_; simp) | (refine awp_ret ?_; simp) | (refine awp_exit ?_; simp)))
  · exact trivial
  refine awp_loop_at (α := {i : Nat // i ≤ 8}) (fun i => [(1, .c (.sc (.ptr H.length 0))), (3, .c (.sc (.sl (H.length + 1) 0 1 (3 + 3 * i.1) (3 + 3 * i.1)))), (26, .c (.sc (.sl (H.length + 2) 0 1 8 8))), (27, .c (.sc (.int .i64 8))), (28, .c (.sc (.int .i64 i.1)))])
    (fun i => H ++ [.own p.cs, .own (bytesC (p.body i.1)), .own (intsC p.nums)]) (fun i => 8 - i.1) ⟨0, by omega⟩ (wk_gcl [0, 1, 4] (gcOk_of (by decide) (by simp [Nt.body, hhd])) (by simp)) ?_
  rintro ⟨i, hi⟩
  by_cases hlt : i < 8
  · obtain ⟨x, hx⟩ : ∃ x, p.nums[i]? = some x := ⟨p.nums[i]'(by rw [show p.nums.length = 8 from rfl]; exact hlt), List.getElem?_eq_getElem _⟩
    have hxb := hG.nums x (List.mem_of_getElem? hx)
    have hxc := intsC_at _ hx
    obtain ⟨_, hxc2⟩ := List.getElem?_eq_some_iff.1 hxc
    have hi8 : (i : Int) < 8 := by omega
    obtain ⟨n, rfl⟩ := Int.eq_ofNat_of_zero_le hxb.1
    have wi := wrapS i (by omega)
    have hbs := p.body_succ hx
    rw [Int.toNat_natCast] at hbs
    have hbl := p.body_len i (by omega)
    have hle := le3_cells n (by omega)
    have f1 := wrap_u8i (x := (n : Int) % 256) (by omega) (by omega)
    have f2 := wrap_in ((n : Int) / 256) (by omega) (by omega)
    have f3 := wrap_u8i (x := (n : Int) / 256 % 256) (by omega) (by omega)
    have f4 := wrap_in ((n : Int) / 65536) (by omega) (by omega)
    have f5 := wrap_u8i (x := (n : Int) / 65536) (by omega) (by omega)
    have m1 : ((n : Int)).tmod 256 = (n : Int) % 256 := Int.tmod_eq_emod_of_nonneg (by omega)
    have m2 : ((n : Int) / 256).tmod 256 = (n : Int) / 256 % 256 := Int.tmod_eq_emod_of_nonneg (by omega)
    have d1 : ((n : Int)).tdiv 256 = (n : Int) / 256 := Int.tdiv_eq_ediv_of_nonneg (by omega)
    have d2 : ((n : Int)).tdiv 65536 = (n : Int) / 65536 := Int.tdiv_eq_ediv_of_nonneg (by omega)
    have tk1 : (bytesC (p.body i)).take (3 + 3 * i) = bytesC (p.body i) := List.take_of_length_le (by rw [bytesC_len, hbl]; exact Nat.le_refl _)
    (repeat' (first | refine awp_seq ?_ | (refine awp_region tabOk ?_; simp [hlt, hi8, hxc, hxc2, m1, m2, d1, d2, f1, f2, f3, f4, f5, tk1, hbl, maxLen]) | (refine awp_if ?_; simp [hlt, hi8, hxc, hxc2, m1, m2, d1, d2, f1, f2, f3, f4, f5, tk1, hbl, maxLen]) | refine awp_block ?_ | refine And.intro ?_ ?_ | intro _ | (refine awp_skip ?_; simp [hlt, hi8, hxc, hxc2, m1, m2, d1, d2, f1, f2, f3, f4, f5, tk1, hbl, maxLen]) | (refine awp_ret ?_; simp [hlt, hi8, hxc, hxc2, m1, m2, d1, d2, f1, f2, f3, f4, f5, tk1, hbl, maxLen]) | (refine awp_exit ?_; simp [hlt, hi8, hxc, hxc2, m1, m2, d1, d2, f1, f2, f3, f4, f5, tk1, hbl, maxLen])))
    · omega
    · omega
    refine ⟨i + 1, by omega, by omega, ?_⟩
    rw [hbs]
    have e3 : 3 + 3 * (i + 1) = 3 + 3 * i + 3 := by omega
    exact wk_gcl [0, 4, 2] (gcOk_of (by decide) (by simp [bytesC_app, hle])) (by simp [wi, e3])
  · obtain rfl : i = 8 := by omega
    have hbl := p.body_len 8 (by omega)
    have hbl2 : (bytesC (p.body 8)).length = 27 := by rw [bytesC_len, hbl]
    have ht := hG.text
    have tk1 : (bytesC (p.body 8)).take 27 = bytesC (p.body 8) := List.take_of_length_le (by rw [hbl2]; exact Nat.le_refl _)
    have tk2 : (p.body 8).take 27 = p.body 8 := List.take_of_length_le (by rw [hbl]; exact Nat.le_refl _)
    have to8 := bytesC_to (p.body 8)
    have hu8 := List.all_eq_true.1 (bytesC_u8 (p.body 8))
    have hap : (⟨(p.body 8).toArray⟩ : ByteArray) ++ p.text = ⟨p.out.toArray⟩ := by
      apply ByteArray.ext
      rw [ByteArray.data_append]
      simp [Nt.out]
    have hsz : (⟨(p.body 8).toArray⟩ : ByteArray).size = 27 := by show (p.body 8).toArray.size = 27; simp [hbl]
    have hol := p.out_len
    have hosz : (⟨p.out.toArray⟩ : ByteArray).size = 27 + p.text.size := by show p.out.toArray.size = _; simp [hol]
    (repeat' (first | refine awp_seq ?_ | (refine awp_region tabOk ?_; simp [hbl, hbl2, tk1, tk2, to8, hap, hsz]) | (refine awp_if ?_; simp [hbl, hbl2, tk1, tk2, to8, hap, hsz]) | refine awp_block ?_ | refine And.intro ?_ ?_ | intro _ | (refine awp_skip ?_; simp [hbl, hbl2, tk1, tk2, to8, hap, hsz]) | (refine awp_ret ?_; simp [hbl, hbl2, tk1, tk2, to8, hap, hsz]) | (refine awp_exit ?_; simp [hbl, hbl2, tk1, tk2, to8, hap, hsz])))
    · rename_i x hx; exact hu8 x hx
    · omega
    refine refSum (by rw [hosz]; omega) ?_
    have hcl := crc_lt ⟨p.out.toArray⟩
    have hs : crc ⟨p.out.toArray⟩ = p.sum := rfl
    rw [hs] at hcl
    have hle := le4_cells p.sum hcl
    unfold Nt.pack at q
    rw [hs]
    generalize p.sum = c at *
    have m1 : ((c : Int)).tmod 256 = (c : Int) % 256 := Int.tmod_eq_emod_of_nonneg (by omega)
    have m2 : ((c : Int) / 256).tmod 256 = (c : Int) / 256 % 256 := Int.tmod_eq_emod_of_nonneg (by omega)
    have m3 : ((c : Int) / 65536).tmod 256 = (c : Int) / 65536 % 256 := Int.tmod_eq_emod_of_nonneg (by omega)
    have d1 : ((c : Int)).tdiv 256 = (c : Int) / 256 := Int.tdiv_eq_ediv_of_nonneg (by omega)
    have d2 : ((c : Int)).tdiv 65536 = (c : Int) / 65536 := Int.tdiv_eq_ediv_of_nonneg (by omega)
    have d3 : ((c : Int)).tdiv 16777216 = (c : Int) / 16777216 := Int.tdiv_eq_ediv_of_nonneg (by omega)
    have f0 := wrap_u8i (x := (c : Int) % 256) (by omega) (by omega)
    have f1 : IntKind.u32.wrap ((c : Int) / 256) = (c : Int) / 256 := by have := wrap_u32 (n := c / 256) (by omega); simpa using this
    have f2 := wrap_u8i (x := (c : Int) / 256 % 256) (by omega) (by omega)
    have f3 : IntKind.u32.wrap ((c : Int) / 65536) = (c : Int) / 65536 := by have := wrap_u32 (n := c / 65536) (by omega); simpa using this
    have f4 := wrap_u8i (x := (c : Int) / 65536 % 256) (by omega) (by omega)
    have f5 : IntKind.u32.wrap ((c : Int) / 16777216) = (c : Int) / 16777216 := by have := wrap_u32 (n := c / 16777216) (by omega); simpa using this
    have f6 := wrap_u8i (x := (c : Int) / 16777216) (by omega) (by omega)
    ((try simp [m1, m2, m3, d1, d2, d3, f0, f1, f2, f3, f4, f5, f6, hsz, hosz]); (repeat' (first | refine awp_seq ?_ | (refine awp_region tabOk ?_; simp [m1, m2, m3, d1, d2, d3, f0, f1, f2, f3, f4, f5, f6, hsz, hosz]) | (refine awp_if ?_; simp [m1, m2, m3, d1, d2, d3, f0, f1, f2, f3, f4, f5, f6, hsz, hosz]) | refine awp_block ?_ | refine And.intro ?_ ?_ | intro _ | (refine awp_skip ?_; simp [m1, m2, m3, d1, d2, d3, f0, f1, f2, f3, f4, f5, f6, hsz, hosz]) | (refine awp_ret ?_; simp [m1, m2, m3, d1, d2, d3, f0, f1, f2, f3, f4, f5, f6, hsz, hosz]) | (refine awp_exit ?_; simp [m1, m2, m3, d1, d2, d3, f0, f1, f2, f3, f4, f5, f6, hsz, hosz]))))
    · simp [isU8]; omega
    · simp [isU8]; omega
    · simp [isU8]; omega
    · simp [isU8]; omega
    · show 27 + (p.text.size : Int) + ((4 : Nat) : Int) ≤ 9223372036854775807; omega
    refine ⟨H, _, gcTo_none (fun _ => rfl), ?_⟩
    have hto := bytesC_to (le 4 c)
    rw [hle] at hto
    rw [← hto] at q
    rw [show (⟨p.out.toArray⟩ ++ ⟨#[toU8 (Sc.int .u8 ((c : Int) % 256)), toU8 (Sc.int .u8 ((c : Int) / 256 % 256)), toU8 (Sc.int .u8 ((c : Int) / 65536 % 256)), toU8 (Sc.int .u8 ((c : Int) / 16777216))]⟩ : ByteArray) = ⟨(p.out ++ List.map toU8 [Sc.int .u8 ((c : Int) % 256), Sc.int .u8 ((c : Int) / 256 % 256), Sc.int .u8 ((c : Int) / 65536 % 256), Sc.int .u8 ((c : Int) / 16777216)]).toArray⟩ by
      apply ByteArray.ext
      rw [ByteArray.data_append]
      simp]
    exact q
end Go.Proofs.Ytdeockoaalpcjaa
