/- What is proved here: a region that draws its order, whose operations only read and whose callees leave all that was there as it was, is walked once. No condition. -/
import Derived.Test.YtalhldfcdfdoeaaBase
import Derived.BigQuiet
import Derived.Deep.QuietTactic
namespace Go.Proofs.Ytalhldfcdfdoeaa
open Go.RowKit

/-- A world in which all that w had stands as it stood. -/
def After (w : World) : Type := { u : World // Kept (fun _ => False) w u }
instance (w : World) : Nonempty (After w) := ⟨⟨w, Kept.refl _ _⟩⟩
theorem After.kept {w : World} (t : After w) : Kept (fun _ => False) w t.1 := t.2
def After.next {w : World} (t : After w) {w' : World} (k : Kept (fun _ => False) t.1 w') : After w := ⟨w', t.2.trans k (fun _ _ h => h)⟩

theorem wp_region_after {P : Program} {id : Nat} {Q : Exit → Act → World → Prop} {a : Act} {w : World} {l : List Oper} (hm : P.follows .mixedOrders = true) (hB : Region.lexB .any l.toArray = true)
    (h : wpQuiet P l.toArray (fun w' => ∃ t : After w, w' = t.1) (fun a' => ∀ w', (∃ t : After w, w' = t.1) → Q .normal a' w') l a) : (Code.region id l.toArray true).wp P Q a w :=
  wp_region_quiet (C := fun w' => ∃ t : After w, w' = t.1) hm hB ⟨⟨w.drew, (Kept.refl _ w).drew⟩, rfl⟩ (by simpa using h)

end Go.Proofs.Ytalhldfcdfdoeaa
