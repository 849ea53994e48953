/- What is proved here: the memory form of the reference's marker, and the contract of its 'reach' over the plain marker. Condition: the marker lies in memory. -/
import Derived.Test.YtalhldfcdfdoeaaFind
import Derived.Test.YtalhldfcdfdoeaaMem
import Derived.Test.YtalhldfcdfdoeaaStep
namespace Go.Proofs.Ytalhldfcdfdoeaa
open Go.RowKit

theorem Objs.keptF {w w' : World} {F : Nat → Prop} {A : Option Addr} {n : Nat} {os : List Ob} (h : Objs w A n os) (hk : Kept F w w') (hF : ∀ r, rowBlk A = some r → ¬ F r) : Objs w' A n os := by
  refine ⟨h.len, fun hn => ?_⟩
  obtain ⟨b, off, e, hb, hc⟩ := h.at_ hn
  have hf : ¬ F b := hF b (by rw [e]; rfl)
  refine ⟨b, off, e, Nat.lt_of_lt_of_le hb hk.size, fun i o ho => ?_⟩
  obtain ⟨c0, c1, c2, c3, c4⟩ := hc i o ho
  exact ⟨(hk.cell (p := ⟨b, _, none⟩) hb hf).trans c0, (hk.cell (p := ⟨b, _, none⟩) hb hf).trans c1, (hk.cell (p := ⟨b, _, none⟩) hb hf).trans c2, (hk.cell (p := ⟨b, _, none⟩) hb hf).trans c3, (hk.cell (p := ⟨b, _, none⟩) hb hf).trans c4⟩

theorem Row.set {w : World} {g off n c : Nat} {xs : List Int} (h : Row w (some ⟨g, off, none⟩) n c xs) (i : Nat) (hi : i < n) (x : Int) : Row (w.setCell ⟨g, off + i, none⟩ (.int .i64 x)) (some ⟨g, off, none⟩) n c (xs.set i x) := by
  obtain ⟨h1, h2, h3, ⟨h, _⟩ | ⟨g', off', cur, e, hh, hs, hc⟩⟩ := h
  · cases h
  · injection e with e
    injection e with e1 e2
    subst e1 e2
    have hb : Blk w g 3 cur := hh
    refine ⟨by simpa using h1, h2, h3, .inr ⟨g, off, cur.setIfInBounds (off + i) (.int .i64 x), rfl, hb.set_ (off + i) _, by simpa using hs, fun j hj => ?_⟩⟩
    rw [Array.getElem?_setIfInBounds, List.getElem?_set]
    by_cases e : i = j
    · subst e
      rw [if_pos rfl, if_pos (by omega), if_pos rfl, if_pos (by omega)]
      rfl
    · rw [if_neg (by omega), if_neg e]
      exact hc j hj
theorem Row.frozen {w : World} {g off n c : Nat} {xs : List Int} (h : Row w (some ⟨g, off, none⟩) n c xs) (i : Nat) : w.frozen? ⟨g, i, none⟩ = false := by
  obtain ⟨h1, h2, h3, ⟨h, _⟩ | ⟨g', off', cur, e, hh, hs, hc⟩⟩ := h
  · cases h
  · injection e with e
    injection e with e1 e2
    subst e1 e2
    exact frozen_of_row w g _ cur 3 hh

def colsOf (l : List Nd) : List Int := l.map fun x => (x.col : Int)

/-- The reference's marker m of the objects os lies at block g. -/
def RMem (w : World) (ow : Nat → Option Nat) (g : Nat) (os : List Ob) (m : Mk) : Prop :=
  ∃ oA oc cA cc qA qc, Blk w g 66 #[.slice oA os.length oc, .slice none 0 0, .slice cA os.length cc, .slice qA m.queue.length qc] ∧ Objs w oA os.length os ∧ Row w cA os.length cc (colsOf m.nodes) ∧ Row w qA m.queue.length qc m.queue ∧
    ow g = some 0 ∧ (∀ r, rowBlk cA = some r → ow r = some 1) ∧ (∀ r, rowBlk qA = some r → ow r = some 2) ∧ (∀ r, rowBlk oA = some r → ow r = some 3) ∧ ∀ k t, ow k = some t → k < w.heap.size
def RPost (w : World) (ow : Nat → Option Nat) (g : Nat) (os : List Ob) (m : Mk) (w' : World) : Prop :=
  ∃ ow', RMem w' ow' g os m ∧ Kept (Own ow) w w' ∧ ∀ k, Own ow' k → Own ow k ∨ w.heap.size ≤ k

theorem RMem.kept {w w' : World} {ow : Nat → Option Nat} {g : Nat} {os : List Ob} {m : Mk} {F : Nat → Prop} (h : RMem w ow g os m) (hk : Kept F w w') (hF : ∀ k, Own ow k → ¬ F k) : RMem w' ow g os m := by
  obtain ⟨oA, oc, cA, cc, qA, qc, h1, h2, h3, h4, o0, o1, o2, o3, hlt⟩ := h
  exact ⟨oA, oc, cA, cc, qA, qc, h1.kept hk (hF _ ⟨_, o0⟩), h2.keptF hk (fun r hr => hF _ ⟨_, o3 r hr⟩), h3.kept hk (fun r hr => hF _ ⟨_, o1 r hr⟩), h4.kept hk (fun r hr => hF _ ⟨_, o2 r hr⟩), o0, o1, o2, o3, fun k t ht => Nat.lt_of_lt_of_le (hlt k t ht) hk.size⟩
theorem RMem.lt {w : World} {ow : Nat → Option Nat} {g : Nat} {os : List Ob} {m : Mk} (h : RMem w ow g os m) : ∀ k, Own ow k → k < w.heap.size := by
  obtain ⟨oA, oc, cA, cc, qA, qc, h1, h2, h3, h4, o0, o1, o2, o3, hlt⟩ := h
  rintro k ⟨t, ht⟩
  exact hlt k t ht
theorem RMem.still {w w' : World} {ow : Nat → Option Nat} {g : Nat} {os : List Ob} {m : Mk} (h : RMem w ow g os m) (hk : Kept (fun _ => False) w w') : RPost w ow g os m w' :=
  ⟨ow, h.kept hk (by simp), hk.mono (fun _ _ h => h.elim), fun _ h => .inl h⟩

theorem same_index {os : List Ob} {l : List Nd} (hs : Mk.Same l (mk0 os).nodes) {i : Nat} {o : Ob} (ho : os[i]? = some o) : ∃ x, l[i]? = some x ∧ x.id = o.id := by
  have := hs.at_ (i := i) (x := ndOf o) (by unfold mk0; simp [ho])
  exact this
theorem colsOf_set {l : List Nd} (ha : l.Pairwise fun x y => x.id < y.id) {i : Nat} {x : Nd} (hx : l[i]? = some x) (c : Nat) : colsOf (Mk.setCol l x.id c) = (colsOf l).set i (c : Int) := by
  apply List.ext_getElem?
  intro j
  unfold colsOf
  rw [List.getElem?_map, setCol_get, List.getElem?_set]
  by_cases e : i = j
  · subst e
    have hl := (List.getElem?_eq_some_iff.1 hx).1
    rw [if_pos rfl, if_pos (by simpa using hl), hx]
    simp
  · rw [if_neg e, List.getElem?_map]
    cases hy : l[j]? with
    | none => rfl
    | some y =>
      have : y.id ≠ x.id := fun e2 => e (asc_index ha hx hy e2.symm)
      simp [this]
theorem colOf_index {l : List Nd} (ha : l.Pairwise fun x y => x.id < y.id) {i : Nat} {x : Nd} (hx : l[i]? = some x) : Mk.colOf l x.id = some x.col := by
  unfold Mk.colOf
  induction l generalizing i with
  | nil => simp at hx
  | cons y l ih =>
    obtain ⟨h1, h2⟩ := List.pairwise_cons.1 ha
    rw [List.find?_cons]
    cases i with
    | zero =>
      simp at hx
      subst hx
      simp
    | succ i =>
      rw [List.getElem?_cons_succ] at hx
      have := h1 x (List.mem_of_getElem? hx)
      have hne : (y.id == x.id) = false := by simp; omega
      rw [hne]
      exact ih h2 hx
theorem colOf_out {os : List Ob} {l : List Nd} (hs : Mk.Same l (mk0 os).nodes) {id : Int} (hn : ∀ o, o ∈ os → o.id ≠ id) : Mk.colOf l id = none := by
  cases h : Mk.colOf l id with
  | none => rfl
  | some c =>
    have h1 := hs.isSome id
    rw [h] at h1
    have h2 := Option.isSome_iff_exists.1 h1.symm
    obtain ⟨d, hd⟩ := h2
    obtain ⟨i, x, hx, e, _⟩ := find_index hd
    have := List.mem_of_getElem? hx
    unfold mk0 at this
    obtain ⟨o, ho, rfl⟩ := List.mem_map.1 this
    exact absurd e (hn o ho)
end Go.Proofs.Ytalhldfcdfdoeaa
