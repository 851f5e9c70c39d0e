/- CausalSays: mails, processes, in plain words; vect.Within, right, ready, sameMail and the small functions around them. -/
import Derived.Test.YtdeockoaalpcjaaB2
import Derived.Test.YtdeockoaalpcjaaS3
import Derived.Test.YtdeockoaalpcjaaM1
namespace Go.Proofs.Ytdeockoaalpcjaa
set_option linter.unusedSimpArgs false
set_option linter.unusedVariables false
open Go.RowKit
attribute [local irreducible] AWP ACalls Wk GcTo
attribute [local simp] tab3 ti3 tab4 ti4 tab38 ti38 tab86 ti86 tab88 ti88 tab84 ti84 tab24 ti24 tab9 ti9
structure Ma where
  src : Int
  at_ : Nat → Int
  text : ByteArray
namespace Ma
def enc (m : Ma) : List Sc := [.int .i64 m.src, .int .i64 (m.at_ 0), .int .i64 (m.at_ 1), .int .i64 (m.at_ 2), .int .i64 (m.at_ 3), .int .i64 (m.at_ 4), .int .i64 (m.at_ 5), .str m.text]
variable (m : Ma)
@[simp] theorem len : m.enc.length = 8 := rfl
@[simp] theorem g0 : m.enc[0]? = some (.int .i64 m.src) := rfl
@[simp] theorem e0 (h : 0 < m.enc.length) : m.enc[0] = .int .i64 m.src := rfl
@[simp] theorem gAt : (m.enc.drop 1).take 6 = Mt.vs m.at_ := rfl
@[simp] theorem gAt' : m.enc.tail.take 6 = Mt.vs m.at_ := rfl
@[simp] theorem all : m.enc.take 8 = m.enc := rfl
@[simp] theorem over (q : Ma) : splice 0 m.enc q.enc = m.enc := rfl
@[simp] theorem over0 : splice 0 m.enc [.int .i64 0, .int .i64 0, .int .i64 0, .int .i64 0, .int .i64 0, .int .i64 0, .int .i64 0, .str ⟨#[]⟩] = m.enc := rfl
@[simp] theorem ren_enc (f : Nat → Nat) : m.enc.map (renS f) = m.enc := rfl
theorem at_at {j : Nat} (h : j < 6) : m.enc[1 + j]? = some (.int .i64 (m.at_ j)) := by
  match j, h with | 0, _ => rfl | 1, _ => rfl | 2, _ => rfl | 3, _ => rfl | 4, _ => rfl | 5, _ => rfl
theorem pl (f : Ma) : f.enc.all plainS = true := rfl
def k : Nat := m.src.toNat
def Rt : Prop := 0 ≤ m.src ∧ m.src ≤ 5 ∧ (∀ j, j < 6 → 0 ≤ m.at_ j) ∧ 0 < m.at_ m.k
instance : Decidable m.Rt := by unfold Rt; infer_instance
def wf : Prop := ∀ j, j < 6 → m.at_ j ≤ 9223372036854775807
/-- The one before it is seen, and all that its sender had seen. -/
def Rd (seen : Nat → Int) : Prop := m.at_ m.k - 1 = seen m.k ∧ ∀ j, j < 6 → (if j = m.k then m.at_ j - 1 else m.at_ j) ≤ seen j
instance (seen : Nat → Int) : Decidable (m.Rd seen) := by unfold Rd; infer_instance
def Sm (n : Ma) : Prop := m.src = n.src ∧ m.at_ m.k = n.at_ n.k
instance (n : Ma) : Decidable (m.Sm n) := by unfold Sm; infer_instance
theorem Rt.k6 {m : Ma} (h : m.Rt) : m.k < 6 ∧ (m.k : Int) = m.src := by unfold k; have := h.1; have := h.2.1; omega
end Ma
/-- A process: who, what is seen, what is held (the slice). -/
def caC (me : Int) (seen : Nat → Int) (a : Sc) : List Sc := [.int .i64 me, .int .i64 (seen 0), .int .i64 (seen 1), .int .i64 (seen 2), .int .i64 (seen 3), .int .i64 (seen 4), .int .i64 (seen 5), a]
section
variable (me : Int) (seen : Nat → Int) (a : Sc)
@[simp] theorem caC_len : (caC me seen a).length = 8 := rfl
@[simp] theorem caC_0 : (caC me seen a)[0]? = some (.int .i64 me) := rfl
@[simp] theorem caC_7 : (caC me seen a)[7]? = some a := rfl
@[simp] theorem caC_e0 (h : 0 < (caC me seen a).length) : (caC me seen a)[0] = .int .i64 me := rfl
@[simp] theorem caC_e7 (h : 7 < (caC me seen a).length) : (caC me seen a)[7] = a := rfl
@[simp] theorem caC_at : ((caC me seen a).drop 1).take 6 = Mt.vs seen := rfl
@[simp] theorem caC_at' : (caC me seen a).tail.take 6 = Mt.vs seen := rfl
@[simp] theorem caC_all : (caC me seen a).take 8 = caC me seen a := rfl
@[simp] theorem caC_over (me' : Int) (seen' : Nat → Int) (a' : Sc) : splice 0 (caC me seen a) (caC me' seen' a') = caC me seen a := rfl
@[simp] theorem caC_over0 : splice 0 (caC me seen a) [.int .i64 0, .int .i64 0, .int .i64 0, .int .i64 0, .int .i64 0, .int .i64 0, .int .i64 0, .nils] = caC me seen a := rfl
@[simp] theorem caC_ren (f : Nat → Nat) : (caC me seen a).map (renS f) = caC me seen (renS f a) := rfl
@[simp] theorem caC_set7 (b : Sc) : (caC me seen a).set 7 b = caC me seen b := rfl
theorem caC_seen {j : Nat} (h : j < 6) : (caC me seen a)[1 + j]? = some (.int .i64 (seen j)) := by
  match j, h with | 0, _ => rfl | 1, _ => rfl | 2, _ => rfl | 3, _ => rfl | 4, _ => rfl | 5, _ => rfl
theorem caC_setS {j : Nat} (h : j < 6) (x : Int) : (caC me seen a).set (1 + j) (.int .i64 x) = caC me (fun i => if i = j then x else seen i) a := by
  match j, h with | 0, _ => rfl | 1, _ => rfl | 2, _ => rfl | 3, _ => rfl | 4, _ => rfl | 5, _ => rfl
end
def Wn (f g : Nat → Int) : Prop := ∀ j, j < 6 → f j ≤ g j
instance (f g : Nat → Int) : Decidable (Wn f g) := by unfold Wn; infer_instance
set_option maxRecDepth 100000 in
theorem within {H : List Blk} {f g : Nat → Int} {Q : AV → List Blk → Prop} (q : Q (.c (.sc (.bool (decide (Wn f g))))) H) :
    ACalls Try.prog 126 [.agg (Mt.vs f), .agg (Mt.vs g)] H Q := by
  refine acalls_of tabOk Try.func126 (by kernel_rfl) rfl (by kernel_rfl) ?_
  (repeat' (first | refine awp_seq ?_ | (refine awp_region tabOk ?_; simp) | (refine awp_if ?_; simp) | refine awp_block ?_ | refine And.intro ?_ ?_ | intro _ | (refine awp_skip ?_; simp) | (refine awp_ret ?_; simp) | (refine awp_exit ?_; simp)))
  refine awp_loop_at (α := {i : Nat // i ≤ 6 ∧ ∀ j, j < i → f j ≤ g j}) (fun i => [(2, .c (.sc (.ptr H.length 0))), (3, .c (.sc (.ptr (H.length + 1) 0))), (6, .c (.sc (.int .i64 i.1)))]) (fun i => H ++ [.own (Mt.vs f), .own (Mt.vs g)]) (fun i => 6 - i.1) ⟨0, by omega, by omega⟩ (wk_tl (by simp)) ?_
  rintro ⟨i, hi, hall⟩
  by_cases hlt : i < 6
  · have hi6 : (i : Int) < 6 := by omega
    have wr := wrapS i (by omega)
    have a1 := Mt.vs_at f hlt
    have a2 := Mt.vs_at g hlt
    obtain ⟨_, b1⟩ := List.getElem?_eq_some_iff.1 a1
    obtain ⟨_, b2⟩ := List.getElem?_eq_some_iff.1 a2
    (repeat' (first | refine awp_seq ?_ | (refine awp_region tabOk ?_; simp [hi6, hlt]) | (refine awp_if ?_; simp [hi6, hlt]) | refine awp_block ?_ | refine And.intro ?_ ?_ | intro _ | (refine awp_skip ?_; simp [hi6, hlt]) | (refine awp_ret ?_; simp [hi6, hlt]) | (refine awp_exit ?_; simp [hi6, hlt])))
    refine awp_draw tabOk mixed [] (by kernel_rfl) ?_
    by_cases hv : g i < f i
    · rw [decide_eq_false (fun h => by have := h i hlt; omega)] at q
      simp [hi6, hlt, a1, a2, b1, b2, hv]
      (repeat' (first | refine awp_seq ?_ | (refine awp_region tabOk ?_; simp [hv]) | (refine awp_if ?_; simp [hv]) | refine awp_block ?_ | refine And.intro ?_ ?_ | intro _ | (refine awp_skip ?_; simp [hv]) | (refine awp_ret ?_; simp [hv]) | (refine awp_exit ?_; simp [hv])))
      exact ⟨H, _, gcTo_none (fun _ => rfl), q⟩
    · have hv' : f i ≤ g i := by omega
      simp [hi6, hlt, a1, a2, b1, b2, hv, hv']
      (repeat' (first | refine awp_seq ?_ | (refine awp_region tabOk ?_; simp [hv, hv']) | (refine awp_if ?_; simp [hv, hv']) | refine awp_block ?_ | refine And.intro ?_ ?_ | intro _ | (refine awp_skip ?_; simp [hv, hv']) | (refine awp_ret ?_; simp [hv, hv']) | (refine awp_exit ?_; simp [hv, hv'])))
      exact ⟨i + 1, by omega, ⟨by omega, fun j hj => by by_cases e : j = i; · subst e; omega
                                                        · exact hall j (by omega)⟩, wk_tl (by simp [wr])⟩
  · obtain rfl : i = 6 := by omega
    rw [decide_eq_true (show Wn f g from hall)] at q
    (repeat' (first | refine awp_seq ?_ | (refine awp_region tabOk ?_; simp) | (refine awp_if ?_; simp) | refine awp_block ?_ | refine And.intro ?_ ?_ | intro _ | (refine awp_skip ?_; simp) | (refine awp_ret ?_; simp) | (refine awp_exit ?_; simp)))
    exact ⟨H, _, gcTo_none (fun _ => rfl), q⟩
set_option maxRecDepth 100000 in
theorem mailSame {H : List Blk} {m n : Ma} {Q : AV → List Blk → Prop} (h1 : 0 ≤ m.src ∧ m.src ≤ 5) (q : Q (.c (.sc (.bool (decide (m.Sm n))))) H) :
    ACalls Try.prog 117 [.agg m.enc, .agg n.enc] H Q := by
  refine acalls_of tabOk Try.func117 (by kernel_rfl) rfl (by kernel_rfl) ?_
  (repeat' (first | refine awp_seq ?_ | (refine awp_region tabOk ?_; simp) | (refine awp_if ?_; simp) | refine awp_block ?_ | refine And.intro ?_ ?_ | intro _ | (refine awp_skip ?_; simp) | (refine awp_ret ?_; simp) | (refine awp_exit ?_; simp)))
  refine awp_draw tabOk mixed [] (by kernel_rfl) ?_
  by_cases hs : m.src = n.src
  · have hk : m.k < 6 := by unfold Ma.k; omega
    have hk2 : m.k = n.k := by unfold Ma.k; rw [hs]
    have a1 := m.at_at hk
    have a2 := n.at_at (hk2 ▸ hk)
    rw [← hk2] at a2
    obtain ⟨_, b1⟩ := List.getElem?_eq_some_iff.1 a1
    obtain ⟨_, b2⟩ := List.getElem?_eq_some_iff.1 a2
    have e : decide (m.Sm n) = decide (m.at_ m.k = n.at_ n.k) := by unfold Ma.Sm; simp [hs]
    rw [e, ← hk2] at q
    have t : n.src.toNat = m.k := by rw [← hs]; rfl
    have g1 : 0 ≤ n.src := by omega
    have g2 : n.src < 6 := by omega
    simp [hs, a1, a2, b1, b2, t, g1, g2]
    (repeat' (first | refine awp_seq ?_ | (refine awp_region tabOk ?_; simp) | (refine awp_if ?_; simp) | refine awp_block ?_ | refine And.intro ?_ ?_ | intro _ | (refine awp_skip ?_; simp) | (refine awp_ret ?_; simp) | (refine awp_exit ?_; simp)))
    exact ⟨H, _, gcTo_none (fun _ => rfl), q⟩
  · rw [decide_eq_false (fun h => hs h.1)] at q
    simp [hs]
    (repeat' (first | refine awp_seq ?_ | (refine awp_region tabOk ?_; simp) | (refine awp_if ?_; simp) | refine awp_block ?_ | refine And.intro ?_ ?_ | intro _ | (refine awp_skip ?_; simp) | (refine awp_ret ?_; simp) | (refine awp_exit ?_; simp)))
    exact ⟨H, _, gcTo_none (fun _ => rfl), q⟩
end Go.Proofs.Ytdeockoaalpcjaa
