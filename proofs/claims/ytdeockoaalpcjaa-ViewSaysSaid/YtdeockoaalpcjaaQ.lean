/- A region that draws its order and whose calls make memory: one walk of the order of the text serves every order, where every operation has one value in every later world. -/
import Derived.Deep.Quiet
import Derived.Deep.QuietTactic
import Derived.BigQuiet
import Derived.Below
import Derived.Test.YtdeockoaalpcjaaW
namespace Go.Proofs.Ytdeockoaalpcjaa
open Go.RowKit
section
variable {P : Program} {ops : Array Oper} {C : World → Prop} {Q : Act → Prop}
theorem quietB {v : Value} {o : Oper} {rest : List Oper} {a : Act} (hw : Region.wanted o (yielded ops a.tmps) = true) (h : ∀ w, C w → o.quietAt P a C w v) (hk : wpQuiet P ops C Q rest (a.put o.dst v)) : wpQuiet P ops C Q (o :: rest) a :=
  wpQuiet_step fun K hK => by rw [if_pos hw]; exact ⟨v, h, hK _ hk⟩
theorem quietSkip {o : Oper} {rest : List Oper} {a : Act} (hw : Region.wanted o (yielded ops a.tmps) = false) (h : wpQuiet P ops C Q rest (a.put o.dst undef)) : wpQuiet P ops C Q (o :: rest) a :=
  wpQuiet_step fun K hK => by rw [if_neg (by rw [hw]; exact Bool.false_ne_true)]; exact hK _ h
theorem wp_region_below {id : Nat} {Q : Exit → Act → World → Prop} {a : Act} {w : World} {l : List Oper} (hm : P.follows .mixedOrders = true) (hB : Region.lexB .any l.toArray = true)
    (h : wpQuiet P l.toArray (fun w' => Below w.heap.size w w') (fun a' => ∀ w', Below w.heap.size w w' → Q .normal a' w') l a) : (Code.region id l.toArray true).wp P Q a w :=
  wp_region_quiet (C := fun w' => Below w.heap.size w w') hm hB (pw_drewN (Below.refl _ _) 1) (by simpa using h)
theorem below_call {f : FuncId} {args : Array Value} {W w' : World} {v : Value} (hw : Below W.heap.size W w') (h : Calls P f args w' fun e w'' => e = .returned v ∧ Below w'.heap.size w' w'') :
    Calls P f args w' fun e w'' => e = .returned v ∧ Below W.heap.size W w'' := h.mono fun _ _ ⟨he, hb⟩ => ⟨he, hw.trans (hb.mono hw.size)⟩
theorem below_call_same {f : FuncId} {args : Array Value} {W w' : World} {v : Value} (hw : Below W.heap.size W w') (h : Calls P f args w' fun e w'' => e = .returned v ∧ w' = w'') :
    Calls P f args w' fun e w'' => e = .returned v ∧ Below W.heap.size W w'' := h.mono fun _ _ ⟨he, hb⟩ => ⟨he, hb ▸ hw⟩
theorem wp_forget {c : Code} {Q : Exit → Act → World → Prop} {a : Act} {w : World} (F : World → Prop) (h : F w) (k : ∀ W, F W → Code.wp P c Q a W) : Code.wp P c Q a w := k w h
/-- The cells that a later world has kept. -/
theorem keepc {W W' : World} (hb : Below W.heap.size W W') {b o : Nat} {v : Value} (h : W.cell? ⟨b, o, none⟩ = some v) : W'.cell? ⟨b, o, none⟩ = some v :=
  (hb.cell (p := ⟨b, o, none⟩) (World.block_lt_of_cell? W ⟨b, o, none⟩ h)).trans h
theorem keepa {W : World} {o : Obj} {b i : Nat} {v : Value} (h : W.cell? ⟨b, i, none⟩ = some v) : (W.alloc o).cell? ⟨b, i, none⟩ = some v :=
  (World.cell?_alloc_lt W o ⟨b, i, none⟩ (World.block_lt_of_cell? W ⟨b, i, none⟩ h)).trans h
theorem calls_forget {f : FuncId} {args : Array Value} {R : Ending → World → Prop} {w : World} (F : World → Prop) (h : F w) (k : ∀ W, F W → Calls P f args W R) : Calls P f args w R := k w h
end
end Go.Proofs.Ytdeockoaalpcjaa
