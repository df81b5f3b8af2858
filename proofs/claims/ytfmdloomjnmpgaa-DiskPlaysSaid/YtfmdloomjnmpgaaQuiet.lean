/-
  A region that draws its order, walked once in the order of the text, over a class of worlds: each operation yields one value in every world of the class and leaves a world of the class.
-/
import Derived.BigQuiet
import Derived.Below
namespace Go.Proofs.Ytfmdloomjnmpgaa
open Go.RowKit
section
variable {P : Program} {C : World → Prop}
theorem wp_region_class {id : Nat} {Q : Exit → Act → World → Prop} {a : Act} {w : World} {l : List Oper} (hm : P.follows .mixedOrders = true) (hB : Region.lexB .any l.toArray = true) (hC : C w.drew)
    (h : wpQuiet P l.toArray C (fun a' => ∀ w', C w' → Q .normal a' w') l a) : (Code.region id l.toArray true).wp P Q a w :=
  wp_region_quiet (C := C) hm hB hC (by simpa using h)
theorem quiet_conv {K : Act → Prop} {a : Act} {o : Oper} {s d : TypeId} (x : Operand) (h : o.op = .convert s d x) {u v : Value} (hu : a.eval x = u) (hv : ∀ w, C w → (convert s d u).run P w = .ok v w) (hk : K (a.put o.dst v)) : o.quiet P a C K :=
  ⟨v, fun w hw => by
    unfold Oper.quietAt execOp
    simp only [h, hu, Sem.run_bind, hv w hw, Result.andThen_ok, Sem.run_pure, Oper.quietUpon, and_self], hk⟩
/-- The worlds behind w: below its own blocks all is as it was. -/
def Behind (w w' : World) : Prop := Below w.heap.size w w'
theorem Behind.drew (w : World) : Behind w w.drew := (Below.refl _ w).drew
theorem Behind.then_ {w w1 w2 : World} (h : Behind w w1) (k : Below w1.heap.size w1 w2) : Behind w w2 := Below.trans h (k.mono h.size)
end
end Go.Proofs.Ytfmdloomjnmpgaa
