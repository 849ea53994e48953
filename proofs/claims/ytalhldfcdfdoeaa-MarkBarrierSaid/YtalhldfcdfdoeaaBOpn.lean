/- What is proved here: an argument that is read as a slice of calls lies in memory as a list of them. No condition. -/
import Derived.Test.YtalhldfcdfdoeaaBar
namespace Go.Proofs.Ytalhldfcdfdoeaa
open Go.RowKit
theorem Try.cells47 : Try.prog.cellsOf 47 = 3 := by kernel_rfl
section
variable {H : Type} {enc : TypeId × Value → H} {V : World} {base : Nat} {held : Bool}
theorem open_opl {fuel : Nat} {v : Value} {x : DataW H × List MemPlace} (h : DataW.trod enc Try.prog V base (fun _ => true) held fuel 45 [v] = some x) :
    ∃ A len cap xs, v = .slice A len cap ∧ Opl V A len xs := by
  rcases open_slice_fields Try.underlying45 Try.underlying47 (by kernel_rfl) Try.cells47 h with ⟨h1, _⟩ | ⟨a, len, cap, m, D, Pl, h1, _, hl, hm, hmm, _, hi⟩
  · simp at h1
    subst h1
    exact ⟨none, 0, 0, [], rfl, ⟨rfl, fun h => by omega, by simp⟩⟩
  · simp at h1
    subst h1
    simp only [if_true] at hmm
    subst hmm
    obtain ⟨xs, hx, hP⟩ := list_of len (fun i (p : Int × Int × Int) => (V.cell? (a.add (i * 3)) = some (.int .i64 p.1) ∧ V.cell? (a.add (i * 3 + 1)) = some (.int .i64 p.2.1) ∧ V.cell? (a.add (i * 3 + 2)) = some (.int .i64 p.2.2)) ∧ I64 p.2.1 ∧ I64 p.2.2) (fun i hlt => by
      obtain ⟨ys, n, _, _, _, hff⟩ := hi i (by omega)
      obtain ⟨v0, y0, c0, _, r0⟩ := hff 0 _ rfl
      obtain ⟨v1, y1, c1, _, r1⟩ := hff 1 _ rfl
      obtain ⟨v2, y2, c2, _, r2⟩ := hff 2 _ rfl
      obtain ⟨a0, q0, _, z0⟩ := DataW.trod_int Try.underlying3 r0
      obtain ⟨a1, q1, _, z1⟩ := DataW.trod_int Try.underlying3 r1
      obtain ⟨a2, q2, _, z2⟩ := DataW.trod_int Try.underlying3 r2
      simp at q0 q1 q2
      subst q0 q1 q2
      exact ⟨(a0, a1, a2), ⟨c0, c1, c2⟩, z1, z2⟩)
    refine ⟨some a, len, m, xs, rfl, ⟨hx, fun hp => ?_, fun p hp => ?_⟩⟩
    · obtain ⟨⟨c0, _⟩, _⟩ := hP 0 xs[0] (List.getElem?_eq_getElem (by omega))
      obtain ⟨b, off, rfl, hb⟩ := spot_of (Nat.zero_mul _) c0
      exact ⟨b, off, rfl, hb, fun i p hp => by
        have h1 := (hP i p hp).1
        rw [addr_add, addr_add, addr_add] at h1
        exact h1⟩
    · obtain ⟨i, hi⟩ := List.getElem?_of_mem hp
      exact (hP i p hi).2
end
theorem bar_walk2 (w : World) (oA rA : Option Addr) (on oc rn rc : Nat) (os : List Ob) (rs : List Int) (h : Gr w oA rA on oc rn rc os rs) {lA : Option Addr} {ln lc : Nat} (xs : List (Int × Int × Int)) (hx : Opl w lA ln xs) :
    Calls Try.prog 6 #[.agg #[.slice oA on oc, .slice rA rn rc], .slice lA ln lc] w fun e w' => e = .returned (.bool true) ∧ Kept (fun _ => False) w w' := bar_walk w oA rA lA on oc rn rc ln lc os rs xs h hx
end Go.Proofs.Ytalhldfcdfdoeaa
