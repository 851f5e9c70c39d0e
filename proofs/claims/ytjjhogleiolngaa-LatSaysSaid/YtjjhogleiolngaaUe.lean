/- Maps of sets: why one is refused, in plain words; lat.Rises, partref.MapErr. -/
import Derived.Test.YtjjhogleiolngaaUd
import Derived.Test.YtjjhogleiolngaaS1
namespace Go.Proofs.Ytjjhogleiolngaa
set_option linter.unusedSimpArgs false
set_option linter.unusedVariables false
open Go.RowKit
attribute [local irreducible] AWP ACalls Wk GcTo
attribute [local simp] tab3 ti3 tab4 ti4 tab29 ti29 tab40 ti40 tab44 ti44 tab47 ti47
open Se
namespace Se
def ph (f : List Int) (i : Nat) : Nat := (f.getD i 0).toNat
def Sub (s t : Nat) : Prop := s &&& t = s
instance (s t : Nat) : Decidable (Sub s t) := by unfold Sub; infer_instance
theorem sub_iff (s t : Nat) : Sub s t ↔ ∀ a, s.testBit a = true → t.testBit a = true := by
  unfold Sub
  constructor
  · intro h a ha
    rw [← h, Nat.testBit_and, Bool.and_eq_true] at ha
    exact ha.2
  · intro h
    apply Nat.eq_of_testBit_eq
    intro a
    rw [Nat.testBit_and]
    cases e : s.testBit a with
    | false => simp
    | true => rw [h a e]; rfl
theorem or_sub (s t : Nat) : s ||| t = t ↔ Sub s t := by
  rw [sub_iff]
  constructor
  · intro h a ha
    rw [← h, Nat.testBit_or, ha]; rfl
  · intro h
    apply Nat.eq_of_testBit_eq
    intro a
    rw [Nat.testBit_or]
    cases e : s.testBit a with
    | false => simp
    | true => rw [h a e]; rfl
def upE (l : List Nat) (f : List Int) : Prop := ∀ i, i < l.length → ∀ j, j < l.length → Sub (l.getD i 0) (l.getD j 0) → Sub (l.getD (ph f i) 0) (l.getD (ph f j) 0)
def vaE (l : List Nat) (f : List Int) : Prop := ∀ k ∈ f, 0 ≤ k ∧ k < l.length
open Classical in
noncomputable def maErr (l : List Nat) (f : List Int) : Int := if ¬seErr l = 0 then seErr l else if ¬f.length = l.length then 4 else if ¬vaE l f then 1 else if upE l f then 0 else 11
theorem maErr_1 {l : List Nat} {f : List Int} (h : ¬seErr l = 0) : maErr l f = seErr l := if_pos h
theorem maErr_2 {l : List Nat} {f : List Int} (h : seErr l = 0) (h2 : ¬f.length = l.length) : maErr l f = 4 := by unfold maErr; rw [if_neg (by simpa using h), if_pos h2]
theorem maErr_3 {l : List Nat} {f : List Int} (h : seErr l = 0) (h2 : f.length = l.length) (h3 : ¬vaE l f) : maErr l f = 1 := by unfold maErr; rw [if_neg (by simpa using h), if_neg (by simpa using h2), if_pos h3]
theorem maErr_4 {l : List Nat} {f : List Int} (h : seErr l = 0) (h2 : f.length = l.length) (h3 : vaE l f) (h4 : ¬upE l f) : maErr l f = 11 := by unfold maErr; rw [if_neg (by simpa using h), if_neg (by simpa using h2), if_neg (by simpa using h3), if_neg h4]
theorem maErr_5 {l : List Nat} {f : List Int} (h : seErr l = 0) (h2 : f.length = l.length) (h3 : vaE l f) (h4 : upE l f) : maErr l f = 0 := by unfold maErr; rw [if_neg (by simpa using h), if_neg (by simpa using h2), if_neg (by simpa using h3), if_pos h4]
structure Lt (l : List Nat) : Prop where
  len : 1 ≤ l.length ∧ l.length ≤ 300
  zero : l.getD 0 0 = 0
  scan : scanS l l.length 0 = 0
  cl : ∀ s ∈ l, ∀ t ∈ l, Cl2 l s t
theorem lt_of {l : List Nat} (h : seErr l = 0) : Lt l := by
  unfold seErr at h
  split at h
  · cases h
  · split at h
    · cases h
    · split at h
      · next h1 => exact absurd h h1
      · split at h
        · cases h
        · split at h
          · next h1 h2 h3 h4 h5 => exact ⟨by omega, by simpa using h2, by simpa using h3, h5⟩
          · cases h
theorem Lt.small {l : List Nat} (h : Lt l) {s : Nat} (hs : s ∈ l) : s ≤ 4095 := Se.small h.scan hs
theorem maErr_ok {l : List Nat} {f : List Int} (h : maErr l f = 0) : Lt l ∧ f.length = l.length ∧ vaE l f ∧ upE l f := by
  by_cases h1 : seErr l = 0
  · by_cases h2 : f.length = l.length
    · rcases Classical.em (vaE l f) with h3 | h3
      · rcases Classical.em (upE l f) with h4 | h4
        · exact ⟨lt_of h1, h2, h3, h4⟩
        · rw [maErr_4 h1 h2 h3 h4] at h; cases h
      · rw [maErr_3 h1 h2 h3] at h; cases h
    · rw [maErr_2 h1 h2] at h; cases h
  · rw [maErr_1 h1] at h; exact absurd h h1
end Se
set_option maxRecDepth 100000 in
set_option maxHeartbeats 2000000 in
theorem latRises {H : List Blk} {a b : Sc} {l : List Nat} {f : List Int} {Q : AV → List Blk → Prop} (ha : USl H a l) (hb : ISl H b f) (hw : ∀ s ∈ l, s < 65536) (q : Q (.c (.sc (.int .i64 (maErr l f)))) H) :
    ACalls Try.prog 30 [.sc a, .sc b] H Q := by
  refine acalls_of tabOk Try.func30 (by kernel_rfl) rfl (by kernel_rfl) ?_
  have la := ha.len (i := ti40) (e := 44) rfl
  have lb := hb.len
  simp only [ti40] at la
  (repeat' (first | refine awp_seq ?_ | (refine awp_region tabOk ?_; simp) | (refine awp_if ?_; simp) | refine awp_block ?_ | refine And.intro ?_ ?_ | intro _ | (refine awp_skip ?_; simp) | (refine awp_ret ?_; simp) | (refine awp_exit ?_; simp)))
  refine latCheck ha hw ?_
  by_cases he : seErr l = 0
  · have hL := lt_of he
    obtain ⟨n, hn⟩ : ∃ n, l.length = n := ⟨_, rfl⟩
    have hl1 := hL.len
    by_cases hfl : f.length = l.length
    · rw [hfl, hn] at lb
      rw [hn] at la hl1
      obtain ⟨fid, foff, fcap, fcs, hbe, hfcap, hfc, hfx⟩ := hb.at (i := 0) (by omega)
      obtain ⟨id, off, cap, cs, hae, hcap, hc, hx⟩ := usl_at ha (by omega)
      rw [hfl, hn] at hbe hfcap
      rw [hn] at hae hcap
      subst hbe
      subst hae
      ((try simp [he, -lenC, la, lb]); (repeat' (first | refine awp_seq ?_ | (refine awp_region tabOk ?_; simp [he, -lenC, la, lb]) | (refine awp_if ?_; simp [he, -lenC, la, lb]) | refine awp_block ?_ | refine And.intro ?_ ?_ | intro _ | (refine awp_skip ?_; simp [he, -lenC, la, lb]) | (refine awp_ret ?_; simp [he, -lenC, la, lb]) | (refine awp_exit ?_; simp [he, -lenC, la, lb]))))
      refine awp_loop_at (α := {i : Nat // i ≤ n ∧ ∀ k ∈ f.take i, 0 ≤ k ∧ k < l.length}) (fun i => [(0, .c (.sc (.sl id off 1 n cap))), (1, .c (.sc (.sl fid foff 1 n fcap))), (22, .c (.sc (.sl fid foff 1 n fcap))), (23, .c (.sc (.int .i64 n))), (24, .c (.sc (.int .i64 i.1)))]) (fun _ => H) (fun i => n - i.1) ⟨0, by omega, by simp⟩ (wk_tl (by simp)) ?_
      rintro ⟨i, hi, hv⟩
      by_cases hin : i < n
      · obtain ⟨k, hk⟩ : ∃ k, f[i]? = some k := ⟨f[i]'(by omega), List.getElem?_eq_getElem _⟩
        have z := hfx i k hk
        obtain ⟨_, z'⟩ := List.getElem?_eq_some_iff.1 z
        have hin' : (i : Int) < n := by omega
        have wr := wrapS i (by omega)
        by_cases hk2 : 0 ≤ k ∧ k < n
        · have c1 : ¬k < 0 := by omega
          have c2 : ¬(n : Int) ≤ k := by omega
          (repeat' (first | refine awp_seq ?_ | (refine awp_region tabOk ?_; simp [-lenC, la, hin, hin', hfc, z, z', c1, c2, wr]) | (refine awp_if ?_; simp [-lenC, la, hin, hin', hfc, z, z', c1, c2, wr]) | refine awp_block ?_ | refine And.intro ?_ ?_ | intro _ | (refine awp_skip ?_; simp [-lenC, la, hin, hin', hfc, z, z', c1, c2, wr]) | (refine awp_ret ?_; simp [-lenC, la, hin, hin', hfc, z, z', c1, c2, wr]) | (refine awp_exit ?_; simp [-lenC, la, hin, hin', hfc, z, z', c1, c2, wr])))
          exact ⟨i + 1, by omega, ⟨by omega, fun k' h' => by
            rw [take_snoc hk] at h'
            rcases List.mem_append.1 h' with h | h
            · exact hv k' h
            · simp at h; subst h; rw [hn]; exact hk2⟩, wk_tl (by simp [wr])⟩
        · have hno : ¬vaE l f := fun h => hk2 (by have := h k (List.mem_of_getElem? hk); rwa [hn] at this)
          rw [maErr_3 he hfl hno] at q
          by_cases c1 : k < 0
          · (repeat' (first | refine awp_seq ?_ | (refine awp_region tabOk ?_; simp [-lenC, la, hin, hin', hfc, z, z', c1]) | (refine awp_if ?_; simp [-lenC, la, hin, hin', hfc, z, z', c1]) | refine awp_block ?_ | refine And.intro ?_ ?_ | intro _ | (refine awp_skip ?_; simp [-lenC, la, hin, hin', hfc, z, z', c1]) | (refine awp_ret ?_; simp [-lenC, la, hin, hin', hfc, z, z', c1]) | (refine awp_exit ?_; simp [-lenC, la, hin, hin', hfc, z, z', c1])))
            exact ⟨H, _, GcTo.refl (Nat.le_refl _), q⟩
          · have c2 : (n : Int) ≤ k := by omega
            (repeat' (first | refine awp_seq ?_ | (refine awp_region tabOk ?_; simp [-lenC, la, hin, hin', hfc, z, z', c1, c2]) | (refine awp_if ?_; simp [-lenC, la, hin, hin', hfc, z, z', c1, c2]) | refine awp_block ?_ | refine And.intro ?_ ?_ | intro _ | (refine awp_skip ?_; simp [-lenC, la, hin, hin', hfc, z, z', c1, c2]) | (refine awp_ret ?_; simp [-lenC, la, hin, hin', hfc, z, z', c1, c2]) | (refine awp_exit ?_; simp [-lenC, la, hin, hin', hfc, z, z', c1, c2])))
            exact ⟨H, _, GcTo.refl (Nat.le_refl _), q⟩
      · obtain rfl : i = n := by omega
        have hva : vaE l f := fun k hk => hv k (by rw [← hn, ← hfl, List.take_length]; exact hk)
        have hget : ∀ k, k < i → ∃ s, l[k]? = some s ∧ l.getD k 0 = s ∧ s ∈ l := fun k hk => ⟨l[k]'(by omega), List.getElem?_eq_getElem _, getD_at (List.getElem?_eq_getElem _), List.getElem_mem _⟩
        have hgf : ∀ k, k < i → ∃ m : Nat, f[k]? = some (m : Int) ∧ ph f k = m ∧ m < i := fun k hk => by
          have h1 : f[k]? = some (f[k]'(by omega)) := List.getElem?_eq_getElem _
          have h2 := hva _ (List.mem_of_getElem? h1)
          obtain ⟨m, hm⟩ := Int.eq_ofNat_of_zero_le h2.1
          rw [hm] at h1 h2
          exact ⟨m, h1, by unfold ph; rw [List.getD_eq_getElem?_getD, h1]; simp, by omega⟩
        (repeat' (first | refine awp_seq ?_ | (refine awp_region tabOk ?_; simp [-lenC, la]) | (refine awp_if ?_; simp [-lenC, la]) | refine awp_block ?_ | refine And.intro ?_ ?_ | intro _ | (refine awp_skip ?_; simp [-lenC, la]) | (refine awp_ret ?_; simp [-lenC, la]) | (refine awp_exit ?_; simp [-lenC, la])))
        refine awp_loop_at (α := {x : Nat // x ≤ i ∧ ∀ p, p < x → ∀ r, r < i → Sub (l.getD p 0) (l.getD r 0) → Sub (l.getD (ph f p) 0) (l.getD (ph f r) 0)}) (fun x => [(0, .c (.sc (.sl id off 1 i cap))), (1, .c (.sc (.sl fid foff 1 i fcap))), (37, .c (.sc (.sl id off 1 i cap))), (38, .c (.sc (.int .i64 i))), (39, .c (.sc (.int .i64 x.1)))])
          (fun _ => H) (fun x => i - x.1) ⟨0, by omega, by omega⟩ (wk_tl (by simp)) ?_
        rintro ⟨x, hxi, hup⟩
        by_cases hxl : x < i
        · obtain ⟨s, hs, hgs, hsm⟩ := hget x hxl
          obtain ⟨m, hm, hpm, hmi⟩ := hgf x hxl
          obtain ⟨u, hu, hgu, hum⟩ := hget m hmi
          have z1 := hx x s hs
          obtain ⟨_, z1'⟩ := List.getElem?_eq_some_iff.1 z1
          have y1 := hfx x _ hm
          obtain ⟨_, y1'⟩ := List.getElem?_eq_some_iff.1 y1
          have x1 := hx m u hu
          obtain ⟨_, x1'⟩ := List.getElem?_eq_some_iff.1 x1
          have hxl' : (x : Int) < i := by omega
          have hmi' : (m : Int) < i := by omega
          have wx := wrapS x (by omega)
          (repeat' (first | refine awp_seq ?_ | (refine awp_region tabOk ?_; simp [-lenC, la, hxl, hxl', hc, z1, z1']) | (refine awp_if ?_; simp [-lenC, la, hxl, hxl', hc, z1, z1']) | refine awp_block ?_ | refine And.intro ?_ ?_ | intro _ | (refine awp_skip ?_; simp [-lenC, la, hxl, hxl', hc, z1, z1']) | (refine awp_ret ?_; simp [-lenC, la, hxl, hxl', hc, z1, z1']) | (refine awp_exit ?_; simp [-lenC, la, hxl, hxl', hc, z1, z1'])))
          refine awp_loop_at (α := {y : Nat // y ≤ i ∧ ∀ r, r < y → Sub (l.getD x 0) (l.getD r 0) → Sub (l.getD (ph f x) 0) (l.getD (ph f r) 0)}) (fun y => [(0, .c (.sc (.sl id off 1 i cap))), (1, .c (.sc (.sl fid foff 1 i fcap))), (37, .c (.sc (.sl id off 1 i cap))), (38, .c (.sc (.int .i64 i))), (39, .c (.sc (.int .i64 x))), (8, .c (.sc (.int .i64 x))), (9, .c (.sc (.int .u16 s))), (44, .c (.sc (.sl id off 1 i cap))), (45, .c (.sc (.int .i64 i))), (46, .c (.sc (.int .i64 y.1)))])
            (fun _ => H) (fun y => i - y.1) ⟨0, by omega, by omega⟩ (wk_tl (by simp)) ?_
          rintro ⟨y, hyi, huy⟩
          by_cases hyl : y < i
          · obtain ⟨t, ht, hgt, htm⟩ := hget y hyl
            obtain ⟨m2, hm2, hpm2, hmi2⟩ := hgf y hyl
            obtain ⟨v, hv2, hgv, hvm⟩ := hget m2 hmi2
            have z2 := hx y t ht
            obtain ⟨_, z2'⟩ := List.getElem?_eq_some_iff.1 z2
            have y2 := hfx y _ hm2
            obtain ⟨_, y2'⟩ := List.getElem?_eq_some_iff.1 y2
            have x2 := hx m2 v hv2
            obtain ⟨_, x2'⟩ := List.getElem?_eq_some_iff.1 x2
            have hyl' : (y : Int) < i := by omega
            have hmi2' : (m2 : Int) < i := by omega
            have wy := wrapS y (by omega)
            have b1 := hL.small hsm
            have b2 := hL.small htm
            have b3 := hL.small hum
            have b4 := hL.small hvm
            have o1 := u16_and (a := s) (b := t) (by omega) (by omega)
            have o2 := u16_and (a := u) (b := v) (by omega) (by omega)
            have hS : Sub s t ↔ s &&& t = s := Iff.rfl
            have hS2 : Sub u v ↔ u &&& v = u := Iff.rfl
            have step : (Sub s t → Sub u v) → ∀ r, r < y + 1 → Sub (l.getD x 0) (l.getD r 0) → Sub (l.getD (ph f x) 0) (l.getD (ph f r) 0) := fun h r hr => by
              by_cases e : r = y
              · subst e; rw [hgs, hgt, hpm, hpm2, hgu, hgv]; exact h
              · exact huy r (by omega)
            rw [hS, hS2] at step
            have hbad : Sub s t → ¬Sub u v → ¬upE l f := fun h1 h2 h3 => h2 (by
              have := h3 x (by omega) y (by omega)
              rw [hgs, hgt, hpm, hpm2, hgu, hgv] at this; exact this h1)
            rw [hS, hS2] at hbad
            generalize s &&& t = S1 at *
            generalize u &&& v = S2 at *
            (repeat' (first | refine awp_seq ?_ | (refine awp_region tabOk ?_; simp [hyl, hyl', hc, z2, z2']) | (refine awp_if ?_; simp [hyl, hyl', hc, z2, z2']) | refine awp_block ?_ | refine And.intro ?_ ?_ | intro _ | (refine awp_skip ?_; simp [hyl, hyl', hc, z2, z2']) | (refine awp_ret ?_; simp [hyl, hyl', hc, z2, z2']) | (refine awp_exit ?_; simp [hyl, hyl', hc, z2, z2'])))
            refine awp_draw tabOk mixed [] (by kernel_rfl) ?_
            by_cases d1 : S1 = s
            · have d1' : (S1 : Int) = s := by omega
              by_cases d2 : S2 = u
              · have d2' : (S2 : Int) = u := by omega
                simp [o1, o2, d1, d1', d2, d2', hxl, hxl', hyl, hyl', hmi, hmi', hmi2, hmi2', hc, hfc, y1, y1', y2, y2', x1, x1', x2, x2']
                (repeat' (first | refine awp_seq ?_ | (refine awp_region tabOk ?_; simp [wy]) | (refine awp_if ?_; simp [wy]) | refine awp_block ?_ | refine And.intro ?_ ?_ | intro _ | (refine awp_skip ?_; simp [wy]) | (refine awp_ret ?_; simp [wy]) | (refine awp_exit ?_; simp [wy])))
                exact ⟨y + 1, by omega, ⟨by omega, step (fun _ => d2)⟩, wk_tl (by simp [wy])⟩
              · have d2' : ¬(S2 : Int) = u := by omega
                rw [maErr_4 he hfl hva (hbad d1 d2)] at q
                simp [o1, o2, d1, d1', d2, d2', hxl, hxl', hyl, hyl', hmi, hmi', hmi2, hmi2', hc, hfc, y1, y1', y2, y2', x1, x1', x2, x2']
                (repeat' (first | refine awp_seq ?_ | (refine awp_region tabOk ?_; simp) | (refine awp_if ?_; simp) | refine awp_block ?_ | refine And.intro ?_ ?_ | intro _ | (refine awp_skip ?_; simp) | (refine awp_ret ?_; simp) | (refine awp_exit ?_; simp)))
                exact ⟨H, _, GcTo.refl (Nat.le_refl _), q⟩
            · have d1' : ¬(S1 : Int) = s := by omega
              simp [o1, o2, d1, d1', hxl, hxl', hyl, hyl', hmi, hmi', hmi2, hmi2', hc, hfc, y1, y1', y2, y2', x1, x1', x2, x2']
              (repeat' (first | refine awp_seq ?_ | (refine awp_region tabOk ?_; simp [wy]) | (refine awp_if ?_; simp [wy]) | refine awp_block ?_ | refine And.intro ?_ ?_ | intro _ | (refine awp_skip ?_; simp [wy]) | (refine awp_ret ?_; simp [wy]) | (refine awp_exit ?_; simp [wy])))
              exact ⟨y + 1, by omega, ⟨by omega, step (fun h => absurd h d1)⟩, wk_tl (by simp [wy])⟩
          · obtain rfl : y = i := by omega
            (repeat' (first | refine awp_seq ?_ | (refine awp_region tabOk ?_; simp) | (refine awp_if ?_; simp) | refine awp_block ?_ | refine And.intro ?_ ?_ | intro _ | (refine awp_skip ?_; simp) | (refine awp_ret ?_; simp) | (refine awp_exit ?_; simp)))
            exact ⟨x + 1, by omega, ⟨by omega, fun p hp => by
              by_cases e : p = x
              · subst e; exact huy
              · exact hup p (by omega)⟩, wk_tl (by simp [wx])⟩
        · obtain rfl : x = i := by omega
          rw [maErr_5 he hfl hva (fun p hp r hr => hup p (by omega) r (by omega))] at q
          (repeat' (first | refine awp_seq ?_ | (refine awp_region tabOk ?_; simp) | (refine awp_if ?_; simp) | refine awp_block ?_ | refine And.intro ?_ ?_ | intro _ | (refine awp_skip ?_; simp) | (refine awp_ret ?_; simp) | (refine awp_exit ?_; simp)))
          exact ⟨H, _, GcTo.refl (Nat.le_refl _), q⟩
    · rw [maErr_2 he hfl] at q
      have hfl' : ¬(f.length : Int) = l.length := by omega
      ((try simp [he, -lenC, la, lb, hfl']); (repeat' (first | refine awp_seq ?_ | (refine awp_region tabOk ?_; simp [he, -lenC, la, lb, hfl']) | (refine awp_if ?_; simp [he, -lenC, la, lb, hfl']) | refine awp_block ?_ | refine And.intro ?_ ?_ | intro _ | (refine awp_skip ?_; simp [he, -lenC, la, lb, hfl']) | (refine awp_ret ?_; simp [he, -lenC, la, lb, hfl']) | (refine awp_exit ?_; simp [he, -lenC, la, lb, hfl']))))
      exact ⟨H, _, GcTo.refl (Nat.le_refl _), q⟩
  · rw [maErr_1 he] at q
    ((try simp [he]); (repeat' (first | refine awp_seq ?_ | (refine awp_region tabOk ?_; simp [he]) | (refine awp_if ?_; simp [he]) | refine awp_block ?_ | refine And.intro ?_ ?_ | intro _ | (refine awp_skip ?_; simp [he]) | (refine awp_ret ?_; simp [he]) | (refine awp_exit ?_; simp [he]))))
    exact ⟨H, _, GcTo.refl (Nat.le_refl _), q⟩
set_option maxRecDepth 100000 in
set_option maxHeartbeats 2000000 in
theorem mapErr {H : List Blk} {a b : Sc} {l : List Nat} {f : List Int} {Q : AV → List Blk → Prop} (ha : USl H a l) (hb : ISl H b f) (hw : ∀ s ∈ l, s < 65536) (q : Q (.c (.sc (.int .i64 (maErr l f)))) H) :
    ACalls Try.prog 28 [.sc a, .sc b] H Q := by
  refine acalls_of tabOk Try.func28 (by kernel_rfl) rfl (by kernel_rfl) ?_
  have la := ha.len (i := ti40) (e := 44) rfl
  have lb := hb.len
  simp only [ti40] at la
  (repeat' (first | refine awp_seq ?_ | (refine awp_region tabOk ?_; simp) | (refine awp_if ?_; simp) | refine awp_block ?_ | refine And.intro ?_ ?_ | intro _ | (refine awp_skip ?_; simp) | (refine awp_ret ?_; simp) | (refine awp_exit ?_; simp)))
  refine setsErr ha hw ?_
  by_cases he : seErr l = 0
  · have hL := lt_of he
    obtain ⟨n, hn⟩ : ∃ n, l.length = n := ⟨_, rfl⟩
    have hl1 := hL.len
    by_cases hfl : f.length = l.length
    · rw [hfl, hn] at lb
      rw [hn] at la hl1
      obtain ⟨fid, foff, fcap, fcs, hbe, hfcap, hfc, hfx⟩ := hb.at (i := 0) (by omega)
      obtain ⟨id, off, cap, cs, hae, hcap, hc, hx⟩ := usl_at ha (by omega)
      rw [hfl, hn] at hbe hfcap
      rw [hn] at hae hcap
      subst hbe
      subst hae
      ((try simp [he, -lenC, la, lb]); (repeat' (first | refine awp_seq ?_ | (refine awp_region tabOk ?_; simp [he, -lenC, la, lb]) | (refine awp_if ?_; simp [he, -lenC, la, lb]) | refine awp_block ?_ | refine And.intro ?_ ?_ | intro _ | (refine awp_skip ?_; simp [he, -lenC, la, lb]) | (refine awp_ret ?_; simp [he, -lenC, la, lb]) | (refine awp_exit ?_; simp [he, -lenC, la, lb]))))
      refine awp_loop_at (α := {i : Nat // i ≤ n ∧ ∀ k ∈ f.take i, 0 ≤ k ∧ k < l.length}) (fun i => [(0, .c (.sc (.sl id off 1 n cap))), (1, .c (.sc (.sl fid foff 1 n fcap))), (22, .c (.sc (.sl fid foff 1 n fcap))), (23, .c (.sc (.int .i64 n))), (24, .c (.sc (.int .i64 i.1)))]) (fun _ => H) (fun i => n - i.1) ⟨0, by omega, by simp⟩ (wk_tl (by simp)) ?_
      rintro ⟨i, hi, hv⟩
      by_cases hin : i < n
      · obtain ⟨k, hk⟩ : ∃ k, f[i]? = some k := ⟨f[i]'(by omega), List.getElem?_eq_getElem _⟩
        have z := hfx i k hk
        obtain ⟨_, z'⟩ := List.getElem?_eq_some_iff.1 z
        have hin' : (i : Int) < n := by omega
        have wr := wrapS i (by omega)
        by_cases hk2 : 0 ≤ k ∧ k < n
        · have c1 : ¬k < 0 := by omega
          have c2 : ¬(n : Int) ≤ k := by omega
          (repeat' (first | refine awp_seq ?_ | (refine awp_region tabOk ?_; simp [-lenC, la, hin, hin', hfc, z, z', c1, c2, wr]) | (refine awp_if ?_; simp [-lenC, la, hin, hin', hfc, z, z', c1, c2, wr]) | refine awp_block ?_ | refine And.intro ?_ ?_ | intro _ | (refine awp_skip ?_; simp [-lenC, la, hin, hin', hfc, z, z', c1, c2, wr]) | (refine awp_ret ?_; simp [-lenC, la, hin, hin', hfc, z, z', c1, c2, wr]) | (refine awp_exit ?_; simp [-lenC, la, hin, hin', hfc, z, z', c1, c2, wr])))
          exact ⟨i + 1, by omega, ⟨by omega, fun k' h' => by
            rw [take_snoc hk] at h'
            rcases List.mem_append.1 h' with h | h
            · exact hv k' h
            · simp at h; subst h; rw [hn]; exact hk2⟩, wk_tl (by simp [wr])⟩
        · have hno : ¬vaE l f := fun h => hk2 (by have := h k (List.mem_of_getElem? hk); rwa [hn] at this)
          rw [maErr_3 he hfl hno] at q
          by_cases c1 : k < 0
          · (repeat' (first | refine awp_seq ?_ | (refine awp_region tabOk ?_; simp [-lenC, la, hin, hin', hfc, z, z', c1]) | (refine awp_if ?_; simp [-lenC, la, hin, hin', hfc, z, z', c1]) | refine awp_block ?_ | refine And.intro ?_ ?_ | intro _ | (refine awp_skip ?_; simp [-lenC, la, hin, hin', hfc, z, z', c1]) | (refine awp_ret ?_; simp [-lenC, la, hin, hin', hfc, z, z', c1]) | (refine awp_exit ?_; simp [-lenC, la, hin, hin', hfc, z, z', c1])))
            exact ⟨H, _, GcTo.refl (Nat.le_refl _), q⟩
          · have c2 : (n : Int) ≤ k := by omega
            (repeat' (first | refine awp_seq ?_ | (refine awp_region tabOk ?_; simp [-lenC, la, hin, hin', hfc, z, z', c1, c2]) | (refine awp_if ?_; simp [-lenC, la, hin, hin', hfc, z, z', c1, c2]) | refine awp_block ?_ | refine And.intro ?_ ?_ | intro _ | (refine awp_skip ?_; simp [-lenC, la, hin, hin', hfc, z, z', c1, c2]) | (refine awp_ret ?_; simp [-lenC, la, hin, hin', hfc, z, z', c1, c2]) | (refine awp_exit ?_; simp [-lenC, la, hin, hin', hfc, z, z', c1, c2])))
            exact ⟨H, _, GcTo.refl (Nat.le_refl _), q⟩
      · obtain rfl : i = n := by omega
        have hva : vaE l f := fun k hk => hv k (by rw [← hn, ← hfl, List.take_length]; exact hk)
        have hget : ∀ k, k < i → ∃ s, l[k]? = some s ∧ l.getD k 0 = s ∧ s ∈ l := fun k hk => ⟨l[k]'(by omega), List.getElem?_eq_getElem _, getD_at (List.getElem?_eq_getElem _), List.getElem_mem _⟩
        have hgf : ∀ k, k < i → ∃ m : Nat, f[k]? = some (m : Int) ∧ ph f k = m ∧ m < i := fun k hk => by
          have h1 : f[k]? = some (f[k]'(by omega)) := List.getElem?_eq_getElem _
          have h2 := hva _ (List.mem_of_getElem? h1)
          obtain ⟨m, hm⟩ := Int.eq_ofNat_of_zero_le h2.1
          rw [hm] at h1 h2
          exact ⟨m, h1, by unfold ph; rw [List.getD_eq_getElem?_getD, h1]; simp, by omega⟩
        (repeat' (first | refine awp_seq ?_ | (refine awp_region tabOk ?_; simp [-lenC, la]) | (refine awp_if ?_; simp [-lenC, la]) | refine awp_block ?_ | refine And.intro ?_ ?_ | intro _ | (refine awp_skip ?_; simp [-lenC, la]) | (refine awp_ret ?_; simp [-lenC, la]) | (refine awp_exit ?_; simp [-lenC, la])))
        refine awp_loop_at (α := {x : Nat // x ≤ i ∧ ∀ p, p < x → ∀ r, r < i → Sub (l.getD p 0) (l.getD r 0) → Sub (l.getD (ph f p) 0) (l.getD (ph f r) 0)}) (fun x => [(0, .c (.sc (.sl id off 1 i cap))), (1, .c (.sc (.sl fid foff 1 i fcap))), (37, .c (.sc (.sl id off 1 i cap))), (38, .c (.sc (.int .i64 i))), (39, .c (.sc (.int .i64 x.1)))])
          (fun _ => H) (fun x => i - x.1) ⟨0, by omega, by omega⟩ (wk_tl (by simp)) ?_
        rintro ⟨x, hxi, hup⟩
        by_cases hxl : x < i
        · obtain ⟨s, hs, hgs, hsm⟩ := hget x hxl
          obtain ⟨m, hm, hpm, hmi⟩ := hgf x hxl
          obtain ⟨u, hu, hgu, hum⟩ := hget m hmi
          have z1 := hx x s hs
          obtain ⟨_, z1'⟩ := List.getElem?_eq_some_iff.1 z1
          have y1 := hfx x _ hm
          obtain ⟨_, y1'⟩ := List.getElem?_eq_some_iff.1 y1
          have x1 := hx m u hu
          obtain ⟨_, x1'⟩ := List.getElem?_eq_some_iff.1 x1
          have hxl' : (x : Int) < i := by omega
          have hmi' : (m : Int) < i := by omega
          have wx := wrapS x (by omega)
          (repeat' (first | refine awp_seq ?_ | (refine awp_region tabOk ?_; simp [-lenC, la, hxl, hxl', hc, z1, z1']) | (refine awp_if ?_; simp [-lenC, la, hxl, hxl', hc, z1, z1']) | refine awp_block ?_ | refine And.intro ?_ ?_ | intro _ | (refine awp_skip ?_; simp [-lenC, la, hxl, hxl', hc, z1, z1']) | (refine awp_ret ?_; simp [-lenC, la, hxl, hxl', hc, z1, z1']) | (refine awp_exit ?_; simp [-lenC, la, hxl, hxl', hc, z1, z1'])))
          refine awp_loop_at (α := {y : Nat // y ≤ i ∧ ∀ r, r < y → Sub (l.getD x 0) (l.getD r 0) → Sub (l.getD (ph f x) 0) (l.getD (ph f r) 0)}) (fun y => [(0, .c (.sc (.sl id off 1 i cap))), (1, .c (.sc (.sl fid foff 1 i fcap))), (37, .c (.sc (.sl id off 1 i cap))), (38, .c (.sc (.int .i64 i))), (39, .c (.sc (.int .i64 x))), (8, .c (.sc (.int .i64 x))), (9, .c (.sc (.int .u16 s))), (44, .c (.sc (.sl id off 1 i cap))), (45, .c (.sc (.int .i64 i))), (46, .c (.sc (.int .i64 y.1)))])
            (fun _ => H) (fun y => i - y.1) ⟨0, by omega, by omega⟩ (wk_tl (by simp)) ?_
          rintro ⟨y, hyi, huy⟩
          by_cases hyl : y < i
          · obtain ⟨t, ht, hgt, htm⟩ := hget y hyl
            obtain ⟨m2, hm2, hpm2, hmi2⟩ := hgf y hyl
            obtain ⟨v, hv2, hgv, hvm⟩ := hget m2 hmi2
            have z2 := hx y t ht
            obtain ⟨_, z2'⟩ := List.getElem?_eq_some_iff.1 z2
            have y2 := hfx y _ hm2
            obtain ⟨_, y2'⟩ := List.getElem?_eq_some_iff.1 y2
            have x2 := hx m2 v hv2
            obtain ⟨_, x2'⟩ := List.getElem?_eq_some_iff.1 x2
            have hyl' : (y : Int) < i := by omega
            have hmi2' : (m2 : Int) < i := by omega
            have wy := wrapS y (by omega)
            have b1 := hL.small hsm
            have b2 := hL.small htm
            have b3 := hL.small hum
            have b4 := hL.small hvm
            have o1 := u16_or (a := s) (b := t) (by omega) (by omega)
            have o2 := u16_or (a := u) (b := v) (by omega) (by omega)
            have hS : Sub s t ↔ s ||| t = t := (or_sub _ _).symm
            have hS2 : Sub u v ↔ u ||| v = v := (or_sub _ _).symm
            have step : (Sub s t → Sub u v) → ∀ r, r < y + 1 → Sub (l.getD x 0) (l.getD r 0) → Sub (l.getD (ph f x) 0) (l.getD (ph f r) 0) := fun h r hr => by
              by_cases e : r = y
              · subst e; rw [hgs, hgt, hpm, hpm2, hgu, hgv]; exact h
              · exact huy r (by omega)
            rw [hS, hS2] at step
            have hbad : Sub s t → ¬Sub u v → ¬upE l f := fun h1 h2 h3 => h2 (by
              have := h3 x (by omega) y (by omega)
              rw [hgs, hgt, hpm, hpm2, hgu, hgv] at this; exact this h1)
            rw [hS, hS2] at hbad
            generalize s ||| t = S1 at *
            generalize u ||| v = S2 at *
            (repeat' (first | refine awp_seq ?_ | (refine awp_region tabOk ?_; simp [hyl, hyl', hc, z2, z2']) | (refine awp_if ?_; simp [hyl, hyl', hc, z2, z2']) | refine awp_block ?_ | refine And.intro ?_ ?_ | intro _ | (refine awp_skip ?_; simp [hyl, hyl', hc, z2, z2']) | (refine awp_ret ?_; simp [hyl, hyl', hc, z2, z2']) | (refine awp_exit ?_; simp [hyl, hyl', hc, z2, z2'])))
            refine awp_draw tabOk mixed [] (by kernel_rfl) ?_
            by_cases d1 : S1 = t
            · have d1' : (S1 : Int) = t := by omega
              by_cases d2 : S2 = v
              · have d2' : (S2 : Int) = v := by omega
                simp [o1, o2, d1, d1', d2, d2', hxl, hxl', hyl, hyl', hmi, hmi', hmi2, hmi2', hc, hfc, y1, y1', y2, y2', x1, x1', x2, x2']
                (repeat' (first | refine awp_seq ?_ | (refine awp_region tabOk ?_; simp [wy]) | (refine awp_if ?_; simp [wy]) | refine awp_block ?_ | refine And.intro ?_ ?_ | intro _ | (refine awp_skip ?_; simp [wy]) | (refine awp_ret ?_; simp [wy]) | (refine awp_exit ?_; simp [wy])))
                exact ⟨y + 1, by omega, ⟨by omega, step (fun _ => d2)⟩, wk_tl (by simp [wy])⟩
              · have d2' : ¬(S2 : Int) = v := by omega
                rw [maErr_4 he hfl hva (hbad d1 d2)] at q
                simp [o1, o2, d1, d1', d2, d2', hxl, hxl', hyl, hyl', hmi, hmi', hmi2, hmi2', hc, hfc, y1, y1', y2, y2', x1, x1', x2, x2']
                (repeat' (first | refine awp_seq ?_ | (refine awp_region tabOk ?_; simp) | (refine awp_if ?_; simp) | refine awp_block ?_ | refine And.intro ?_ ?_ | intro _ | (refine awp_skip ?_; simp) | (refine awp_ret ?_; simp) | (refine awp_exit ?_; simp)))
                exact ⟨H, _, GcTo.refl (Nat.le_refl _), q⟩
            · have d1' : ¬(S1 : Int) = t := by omega
              simp [o1, o2, d1, d1', hxl, hxl', hyl, hyl', hmi, hmi', hmi2, hmi2', hc, hfc, y1, y1', y2, y2', x1, x1', x2, x2']
              (repeat' (first | refine awp_seq ?_ | (refine awp_region tabOk ?_; simp [wy]) | (refine awp_if ?_; simp [wy]) | refine awp_block ?_ | refine And.intro ?_ ?_ | intro _ | (refine awp_skip ?_; simp [wy]) | (refine awp_ret ?_; simp [wy]) | (refine awp_exit ?_; simp [wy])))
              exact ⟨y + 1, by omega, ⟨by omega, step (fun h => absurd h d1)⟩, wk_tl (by simp [wy])⟩
          · obtain rfl : y = i := by omega
            (repeat' (first | refine awp_seq ?_ | (refine awp_region tabOk ?_; simp) | (refine awp_if ?_; simp) | refine awp_block ?_ | refine And.intro ?_ ?_ | intro _ | (refine awp_skip ?_; simp) | (refine awp_ret ?_; simp) | (refine awp_exit ?_; simp)))
            exact ⟨x + 1, by omega, ⟨by omega, fun p hp => by
              by_cases e : p = x
              · subst e; exact huy
              · exact hup p (by omega)⟩, wk_tl (by simp [wx])⟩
        · obtain rfl : x = i := by omega
          rw [maErr_5 he hfl hva (fun p hp r hr => hup p (by omega) r (by omega))] at q
          (repeat' (first | refine awp_seq ?_ | (refine awp_region tabOk ?_; simp) | (refine awp_if ?_; simp) | refine awp_block ?_ | refine And.intro ?_ ?_ | intro _ | (refine awp_skip ?_; simp) | (refine awp_ret ?_; simp) | (refine awp_exit ?_; simp)))
          exact ⟨H, _, GcTo.refl (Nat.le_refl _), q⟩
    · rw [maErr_2 he hfl] at q
      have hfl' : ¬(f.length : Int) = l.length := by omega
      ((try simp [he, -lenC, la, lb, hfl']); (repeat' (first | refine awp_seq ?_ | (refine awp_region tabOk ?_; simp [he, -lenC, la, lb, hfl']) | (refine awp_if ?_; simp [he, -lenC, la, lb, hfl']) | refine awp_block ?_ | refine And.intro ?_ ?_ | intro _ | (refine awp_skip ?_; simp [he, -lenC, la, lb, hfl']) | (refine awp_ret ?_; simp [he, -lenC, la, lb, hfl']) | (refine awp_exit ?_; simp [he, -lenC, la, lb, hfl']))))
      exact ⟨H, _, GcTo.refl (Nat.le_refl _), q⟩
  · rw [maErr_1 he] at q
    ((try simp [he]); (repeat' (first | refine awp_seq ?_ | (refine awp_region tabOk ?_; simp [he]) | (refine awp_if ?_; simp [he]) | refine awp_block ?_ | refine And.intro ?_ ?_ | intro _ | (refine awp_skip ?_; simp [he]) | (refine awp_ret ?_; simp [he]) | (refine awp_exit ?_; simp [he]))))
    exact ⟨H, _, GcTo.refl (Nat.le_refl _), q⟩
end Go.Proofs.Ytjjhogleiolngaa
