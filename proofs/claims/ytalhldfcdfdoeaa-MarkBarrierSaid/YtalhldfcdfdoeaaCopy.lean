/- What is proved here: append([]Object{}, objects...) makes a new slice that holds the same objects. Condition: the objects lie in memory as a list. -/
import Derived.Test.YtalhldfcdfdoeaaGraph
import Derived.Laws.MakeOwn
namespace Go.Proofs.Ytalhldfcdfdoeaa
open Go.RowKit

def obCells (o : Ob) : List Value := [.int .i64 o.id, .int .i64 o.size, .int .i64 o.weak, .slice o.rA o.refs.length o.rc, .slice o.eA o.ents.length o.ec]
def osCells (os : List Ob) : List Value := os.flatMap obCells
theorem osCells_length (os : List Ob) : (osCells os).length = os.length * 5 := by
  induction os with
  | nil => rfl
  | cons o os ih => simp only [osCells, List.flatMap_cons, List.length_append, List.length_cons] at ih ⊢; rw [ih]; simp [obCells]; omega
theorem osCells_at {os : List Ob} {i j : Nat} {o : Ob} (h : os[i]? = some o) (hj : j < 5) : (osCells os)[i * 5 + j]? = (obCells o)[j]? := by
  induction os generalizing i with
  | nil => simp at h
  | cons p os ih =>
    have e : osCells (p :: os) = obCells p ++ osCells os := by simp [osCells]
    have hl : (obCells p).length = 5 := rfl
    cases i with
    | zero =>
      simp at h
      subst h
      rw [e, Nat.zero_mul, Nat.zero_add, List.getElem?_append_left (by omega)]
    | succ i =>
      rw [List.getElem?_cons_succ] at h
      rw [e, List.getElem?_append_right (by omega), hl, show (i + 1) * 5 + j - 5 = i * 5 + j by omega]
      exact ih h
theorem Objs.of_block {w : World} {r : Nat} {cur : Array Value} {on : Nat} {os : List Ob} (hh : w.heap[r]? = some (.cells cur 39 (0, 0))) (hlen : os.length = on) (ht : cur.toList.take (on * 5) = osCells os) : Objs w (some ⟨r, 0, none⟩) on os := by
  refine ⟨hlen, fun _ => ⟨r, 0, rfl, (Array.getElem?_eq_some_iff.1 hh).1, fun i o ho => ?_⟩⟩
  have hi : i < on := by rw [← hlen]; exact (List.getElem?_eq_some_iff.1 ho).1
  have key : ∀ j, j < 5 → w.cell? ⟨r, 0 + (i * 5 + j), none⟩ = (obCells o)[j]? := by
    intro j hj
    rw [cell_of_row w r _ cur 39 (0, 0) hh, ← osCells_at ho hj, ← ht, List.getElem?_take, if_pos (by omega)]
    simp
  exact ⟨key 0 (by omega), key 1 (by omega), key 2 (by omega), key 3 (by omega), key 4 (by omega)⟩

theorem Try.info39 : (Try.prog.info? 39).map (fun i => (i.zero, i.size, i.bytes)) = some (some (.agg #[.int .i64 0, .int .i64 0, .int .i64 0, .slice none 0 0, .slice none 0 0]), 5, 72) := by kernel_rfl

theorem run_copy (w : World) (B : Nat) (hB : w.heap[B]? = some (.cells #[] 39 (0, 0))) {oA : Option Addr} {on oc : Nat} {os : List Ob} (h : Objs w oA on os) (hA : oA = none → on = 0) (hn : on ≤ 1000) :
    ∃ A' c' w', (Builtin.append_ #[22, 22] 22 #[.slice (some ⟨B, 0, none⟩) 0 0, .slice oA on oc]).run Try.prog w = .ok (.slice A' on c') w' ∧ Objs w' A' on os ∧ w.grownBy w' (some B) ∧ (∃ r, A' = some ⟨r, 0, none⟩ ∧ (r = B ∨ w.heap.size ≤ r) ∧ r < w'.heap.size) := by
  obtain ⟨i0, hi0, hz0, hz1, hz2⟩ := info_parts Try.info39
  have ht := Try.underlying22
  have hl := h.len
  by_cases hm : on = 0
  · subst hm
    obtain rfl : os = [] := List.eq_nil_of_length_eq_zero hl
    refine ⟨some ⟨B, 0, none⟩, 0, w, ?_, ⟨rfl, fun h => by omega⟩, World.grownBy.refl w _, B, rfl, .inl rfl, (Array.getElem?_eq_some_iff.1 hB).1⟩
    cases oA with
    | none => simp [Builtin.append_, run_underlying ht, sizeOf, typeInfo, hi0, Builtin.lenOf, Builtin.firstCells, storeCells]
    | some a2 =>
      have hf := run_firstCells_some (P := Try.prog) w i0.size 0 a2 0 oc [] (by simp) (by simp)
      simp [Builtin.append_, run_underlying ht, sizeOf, typeInfo, hi0, Builtin.lenOf, hf, storeCells]
  · obtain ⟨b, off, rfl, hbl, hcells⟩ := h.at_ (by omega)
    have hnews : ∀ j u, (osCells os)[j]? = some u → w.cell? ((⟨b, off, none⟩ : Addr).add j) = some u := by
      intro j u hu
      have hj : j < on * 5 := by
        have := (List.getElem?_eq_some_iff.1 hu).1
        rw [osCells_length, hl] at this
        exact this
      have hi : j / 5 < os.length := by omega
      have ho : os[j / 5]? = some os[j / 5] := List.getElem?_eq_getElem hi
      have h2 := osCells_at ho (j := j % 5) (by omega)
      rw [show j / 5 * 5 + j % 5 = j by omega, hu] at h2
      obtain ⟨c0, c1, c2, c3, c4⟩ := hcells _ _ ho
      rw [Addr.add_lit, show off + j = off + (j / 5 * 5 + j % 5) by omega, h2]
      have : j % 5 = 0 ∨ j % 5 = 1 ∨ j % 5 = 2 ∨ j % 5 = 3 ∨ j % 5 = 4 := by omega
      rcases this with e | e | e | e | e <;> rw [e]
      · exact c0
      · exact c1
      · exact c2
      · exact c3
      · exact c4
    have h1c : ∀ u ∈ osCells os, u.oneCell' = true := by
      intro u hu
      obtain ⟨o, _, ho⟩ := List.mem_flatMap.1 hu
      simp [obCells] at ho
      rcases ho with rfl | rfl | rfl | rfl | rfl <;> rfl
    have hown : w.ownsRow 0 39 5 (.slice (some ⟨B, 0, none⟩) 0 0) 0 [] := ⟨rfl, .inr ⟨B, 0, #[], rfl, Nat.zero_le _, hB, Nat.le_refl _, Nat.zero_le _, rfl, rfl⟩⟩
    obtain ⟨v', w', hrun, r1, r2, r3, r4⟩ := run_append_own_at (P := Try.prog) w 0 22 22 39 i0 _ 5 72 ht hi0 hz0 hz1 hz2 rfl (by omega) (.slice (some ⟨B, 0, none⟩) 0 0) 0 [] hown ⟨b, off, none⟩ on oc _ (by rw [osCells_length, hl]) hnews h1c (by unfold maxLen; omega) (by omega) (Nat.zero_le _)
    obtain ⟨r, cap, cur, hv, _, hh', hle, hcm, hcs, htk⟩ := (r1.2.resolve_left (fun h => by omega))
    subst hv
    rw [Nat.zero_add] at hrun htk
    refine ⟨some ⟨r, 0, none⟩, cap, w', hrun, Objs.of_block hh' hl (by simpa using htk), r2, r, rfl, ?_, (Array.getElem?_eq_some_iff.1 hh').1⟩
    rcases r4 with r4 | r4
    · simp [Value.ownBlock] at r4
      exact .inl r4
    · simp [Value.ownBlock] at r4
      exact .inr (by omega)
end Go.Proofs.Ytalhldfcdfdoeaa
