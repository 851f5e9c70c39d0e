/- CausalSays: the law as a call. -/
import Derived.Test.YtdeockoaalpcjaaCj
import Derived.Test.YtdeockoaalpcjaaB4
namespace Go.Proofs.Ytdeockoaalpcjaa
open Go.RowKit
theorem wf64 {n : Int} (h : (Lit.int .i64 n).wf = true) : n ≤ 9223372036854775807 := by
  simp only [Lit.wf, Bool.and_eq_true, decide_eq_true_eq] at h
  have e : IntKind.i64.max = 9223372036854775807 := by decide
  omega
theorem msl_of {w : World} {v : Value} {xs : List Ma} {L : Loc} {blk : Blk} {a : Nat → Sc} (h : InS w Ma.enc 8 v xs L blk a) {H : List Blk} {id : Nat} (hH : H[id]? = some blk) : MSl H (a id) xs := by
  rcases h.sl with ⟨rfl, g | g⟩ | ⟨cap, cs, g, h1, h3, rfl, h2⟩
  · exact .inl ⟨rfl, .inl (g id)⟩
  · exact .inl ⟨rfl, .inr (g id)⟩
  · refine .inr ⟨id, 0, cap, cs, g id, h1, by omega, by rw [hH]; rfl, ?_⟩
    rw [List.drop_zero]
    apply List.ext_getElem?
    intro q
    have hfl : (xs.flatMap Ma.enc).length = xs.length * 8 := flat_len mlen _
    by_cases hq : q < xs.length * 8
    · obtain ⟨y, hy⟩ : ∃ y, (xs.flatMap Ma.enc)[q]? = some y := ⟨_, List.getElem?_eq_getElem (by omega)⟩
      obtain ⟨i, x, j, q1, q2, rfl⟩ := flat_cells mlen (by omega) hy
      rw [List.getElem?_take_of_lt hq, hy, h2 i x q1 j y q2]
    · rw [List.getElem?_eq_none (by rw [List.length_take]; omega), List.getElem?_eq_none (by omega)]
theorem fit_mail {w : World} {cs : List Value} (h : Fit w [.int .i64, .int .i64, .int .i64, .int .i64, .int .i64, .int .i64, .int .i64, .str] cs) : ∃ m : Ma, scsB m.enc cs = true ∧ m.wf := by
  rcases h with _ | ⟨⟨⟩, h⟩
  rcases h with _ | ⟨⟨g0⟩, h⟩
  rcases h with _ | ⟨⟨g1⟩, h⟩
  rcases h with _ | ⟨⟨g2⟩, h⟩
  rcases h with _ | ⟨⟨g3⟩, h⟩
  rcases h with _ | ⟨⟨g4⟩, h⟩
  rcases h with _ | ⟨⟨g5⟩, h⟩
  rcases h with _ | ⟨⟨⟩, h⟩
  rcases h with _ | _
  rename_i a _ b c d e f g t _
  exact ⟨⟨a, fun | 0 => b | 1 => c | 2 => d | 3 => e | 4 => f | _ => g, t⟩, by simp [Ma.enc, scsB, scB], fun j hj => by
    match j, hj with
    | 0, _ => exact wf64 g0
    | 1, _ => exact wf64 g1
    | 2, _ => exact wf64 g2
    | 3, _ => exact wf64 g3
    | 4, _ => exact wf64 g4
    | 5, _ => exact wf64 g5⟩
theorem CausalSays_walk (W : World) (cs : Array Value) (h : Fit W [.int .i64, .int .i64, .int .i64, .int .i64, .int .i64, .int .i64, .int .i64, .slice [.int .i64, .int .i64, .int .i64, .int .i64, .int .i64, .int .i64, .int .i64, .str]] cs.toList) (s : ByteArray) (_ : s.size ≤ maxLen)
    (ms : Array Value) (hm : Fit W [.int .i64, .int .i64, .int .i64, .int .i64, .int .i64, .int .i64, .int .i64, .str] ms.toList) :
    Calls Try.prog 9 #[.agg cs, .string s, .agg ms] W fun e w' => e = .returned (.bool true) ∧ Below W.heap.size W w' := by
  obtain ⟨m, hm1, hm2⟩ := fit_mail hm
  obtain ⟨l, rfl⟩ : ∃ l : List Value, cs = l.toArray := ⟨cs.toList, by simp⟩
  rw [List.toList_toArray] at h
  rcases h with _ | ⟨⟨⟩, h⟩
  rcases h with _ | ⟨⟨g0⟩, h⟩
  rcases h with _ | ⟨⟨g1⟩, h⟩
  rcases h with _ | ⟨⟨g2⟩, h⟩
  rcases h with _ | ⟨⟨g3⟩, h⟩
  rcases h with _ | ⟨⟨g4⟩, h⟩
  rcases h with _ | ⟨⟨g5⟩, h⟩
  rcases h with _ | ⟨hsl, h⟩
  rcases h with _ | _
  rename_i me _ b c d e f g v
  obtain ⟨xs, L, blk, a, hI, hQ⟩ := in_slice (enc := Ma.enc) (Q := Ma.wf) hsl (by simp) mlen (fun cs hcs => fit_mail hcs)
  have hown : ∀ p ∈ [(L, blk)], ¬p.2.isOwn ∧ ∀ ρ, holds ρ W p.1 p.2 := fun p hp => by
    simp at hp; subst hp; exact ⟨hI.own, hI.hold⟩
  obtain ⟨seen, hseen, hb⟩ : ∃ seen : Nat → Int, (seen 0 = b ∧ seen 1 = c ∧ seen 2 = d ∧ seen 3 = e ∧ seen 4 = f ∧ seen 5 = g) ∧ ∀ j, j < 6 → seen j ≤ 9223372036854775807 :=
    ⟨fun | 0 => b | 1 => c | 2 => d | 3 => e | 4 => f | _ => g, ⟨rfl, rfl, rfl, rfl, rfl, rfl⟩, fun j hj => by
    match j, hj with
    | 0, _ => exact wf64 g0
    | 1, _ => exact wf64 g1
    | 2, _ => exact wf64 g2
    | 3, _ => exact wf64 g3
    | 4, _ => exact wf64 g4
    | 5, _ => exact wf64 g5⟩
  have hv := hI.rel (locs [(L, blk)]) 0 rfl
  have hc : relC (locs [(L, blk)]) (.agg (caC me seen (a 0))) (.agg #[.int .i64 me, .int .i64 b, .int .i64 c, .int .i64 d, .int .i64 e, .int .i64 f, .int .i64 g, v]) := by
    obtain ⟨rfl, rfl, rfl, rfl, rfl, rfl⟩ := hseen
    refine ⟨_, rfl, by simp, fun j x hj => ?_⟩
    have hlt : j < 8 := by have := (List.getElem?_eq_some_iff.1 hj).1; simpa using this
    match j, hlt with
    | 0, _ => cases hj; exact ⟨_, rfl, rfl⟩
    | 1, _ => cases hj; exact ⟨_, rfl, rfl⟩
    | 2, _ => cases hj; exact ⟨_, rfl, rfl⟩
    | 3, _ => cases hj; exact ⟨_, rfl, rfl⟩
    | 4, _ => cases hj; exact ⟨_, rfl, rfl⟩
    | 5, _ => cases hj; exact ⟨_, rfl, rfl⟩
    | 6, _ => cases hj; exact ⟨_, rfl, rfl⟩
    | 7, _ => cases hj; exact ⟨_, rfl, hv⟩
  have hmr : relC (locs [(L, blk)]) (.agg m.enc) (.agg ms) := by
    have := relC_acB (ρ := locs [(L, blk)]) (x := .agg m.enc) (v := .agg ms.toList.toArray) (by simpa [acB] using hm1)
    simpa using this
  exact calls_law (causal_law (H := [blk]) (text := s) (m := m) (msl_of hI (id := 0) rfl) hQ hm2 hb rfl) (relArgs_list (vs := [.agg _, .string s, .agg ms]) ⟨hc, rfl, hmr, trivial⟩) (rel_args [(L, blk)] hown) (own_args fun p hp => (hown p hp).1)
end Go.Proofs.Ytdeockoaalpcjaa
