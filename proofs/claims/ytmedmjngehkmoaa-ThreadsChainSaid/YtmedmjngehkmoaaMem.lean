/- What is proved here: the memory form of the coroutine table of package threads, and that the stores of its methods keep that form. No condition. -/
import Derived.Test.YtmedmjngehkmoaaBase
import Derived.Test.YtmedmjngehkmoaaPlain
namespace Go.Proofs.Ytmedmjngehkmoaa
open Go.RowKit

def flat : List (Nat × Nat) → List Value
  | [] => []
  | p :: l => .int .i64 p.1 :: .int .i64 p.2 :: flat l

theorem flat_length (l : List (Nat × Nat)) : (flat l).length = l.length * 2 := by
  induction l with
  | nil => rfl
  | cons p l ih => simp [flat, ih]; omega
theorem flat_append (l m : List (Nat × Nat)) : flat (l ++ m) = flat l ++ flat m := by
  induction l with
  | nil => rfl
  | cons p l ih => simp [flat, ih]
theorem flat_get0 (l : List (Nat × Nat)) (i : Nat) : (flat l)[i * 2]? = l[i]?.map fun p => .int .i64 p.1 := by
  induction l generalizing i with
  | nil => simp [flat]
  | cons p l ih =>
    match i with
    | 0 => rfl
    | i + 1 => rw [show (i + 1) * 2 = i * 2 + 1 + 1 by omega]; simp only [flat, List.getElem?_cons_succ]; exact ih i
theorem flat_get1 (l : List (Nat × Nat)) (i : Nat) : (flat l)[i * 2 + 1]? = l[i]?.map fun p => .int .i64 p.2 := by
  induction l generalizing i with
  | nil => simp [flat]
  | cons p l ih =>
    match i with
    | 0 => rfl
    | i + 1 => rw [show (i + 1) * 2 + 1 = i * 2 + 1 + 1 + 1 by omega]; simp only [flat, List.getElem?_cons_succ]; exact ih i

def set0 (l : List (Nat × Nat)) (i s : Nat) : List (Nat × Nat) := match l, i with
  | [], _ => []
  | p :: l, 0 => (s, p.2) :: l
  | p :: l, i + 1 => p :: set0 l i s
def set1 (l : List (Nat × Nat)) (i s : Nat) : List (Nat × Nat) := match l, i with
  | [], _ => []
  | p :: l, 0 => (p.1, s) :: l
  | p :: l, i + 1 => p :: set1 l i s

theorem flat_set0 (l : List (Nat × Nat)) (i s : Nat) : (flat l).set (i * 2) (.int .i64 s) = flat (set0 l i s) := by
  induction l generalizing i with
  | nil => simp [flat, set0]
  | cons p l ih =>
    match i with
    | 0 => rfl
    | i + 1 => rw [show (i + 1) * 2 = i * 2 + 1 + 1 by omega]; simp only [flat, List.set_cons_succ, set0]; rw [ih i]
theorem flat_set1 (l : List (Nat × Nat)) (i s : Nat) : (flat l).set (i * 2 + 1) (.int .i64 s) = flat (set1 l i s) := by
  induction l generalizing i with
  | nil => simp [flat, set1]
  | cons p l ih =>
    match i with
    | 0 => rfl
    | i + 1 => rw [show (i + 1) * 2 + 1 = i * 2 + 1 + 1 + 1 by omega]; simp only [flat, List.set_cons_succ, set1]; rw [ih i]
theorem set0_length (l : List (Nat × Nat)) (i s : Nat) : (set0 l i s).length = l.length := by
  induction l generalizing i with
  | nil => simp [set0]
  | cons p l ih => match i with
    | 0 => rfl
    | i + 1 => simp [set0, ih]
theorem set1_length (l : List (Nat × Nat)) (i s : Nat) : (set1 l i s).length = l.length := by
  induction l generalizing i with
  | nil => simp [set1]
  | cons p l ih => match i with
    | 0 => rfl
    | i + 1 => simp [set1, ih]
theorem set0_fst (l : List (Nat × Nat)) (i s : Nat) : (set0 l i s).map (·.1) = (l.map (·.1)).set i s := by
  induction l generalizing i with
  | nil => simp [set0]
  | cons p l ih => match i with
    | 0 => rfl
    | i + 1 => simp [set0, ih]
theorem set0_snd (l : List (Nat × Nat)) (i s : Nat) : (set0 l i s).map (·.2) = l.map (·.2) := by
  induction l generalizing i with
  | nil => simp [set0]
  | cons p l ih => match i with
    | 0 => rfl
    | i + 1 => simp [set0, ih]
theorem set1_fst (l : List (Nat × Nat)) (i s : Nat) : (set1 l i s).map (·.1) = l.map (·.1) := by
  induction l generalizing i with
  | nil => simp [set1]
  | cons p l ih => match i with
    | 0 => rfl
    | i + 1 => simp [set1, ih]
theorem set1_snd (l : List (Nat × Nat)) (i s : Nat) : (set1 l i s).map (·.2) = (l.map (·.2)).set i s := by
  induction l generalizing i with
  | nil => simp [set1]
  | cons p l ih => match i with
    | 0 => rfl
    | i + 1 => simp [set1, ih]

/-- The cells of a table of package threads: the struct in block g, its row in block r. -/
structure Raw (w : World) (g r cap : Nat) (l : List (Nat × Nat)) (now depth : Nat) : Prop where
  blk : Blk w g 53 #[.slice (some ⟨r, 0, none⟩) l.length cap, .int .i64 (now : Int), .int .i64 (depth : Int)]
  row : w.ownsRow 0 50 2 (.slice (some ⟨r, 0, none⟩) l.length cap) l.length (flat l)

section
variable {w w' : World} {g r cap : Nat} {l : List (Nat × Nat)} {now depth : Nat}
theorem Raw.ne (h : Raw w g r cap l now depth) : g ≠ r := by
  obtain ⟨_, hr | ⟨g', cap', cur, hv, _, hh, _⟩⟩ := h.row
  · simp at hr
  · have : r = g' := by simp at hv; exact hv.1
    subst this
    exact h.blk.ne_ (t' := 50) hh (by decide)
theorem Raw.lt (h : Raw w g r cap l now depth) : r < w.heap.size := (h.row.lt r rfl).2
theorem Raw.cell0 (h : Raw w g r cap l now depth) : w.cell? ⟨g, 0, none⟩ = some (.slice (some ⟨r, 0, none⟩) l.length cap) := h.blk.cell 0
theorem Raw.cell1 (h : Raw w g r cap l now depth) : w.cell? ⟨g, 1, none⟩ = some (.int .i64 (now : Int)) := h.blk.cell 1
theorem Raw.cell2 (h : Raw w g r cap l now depth) : w.cell? ⟨g, 2, none⟩ = some (.int .i64 (depth : Int)) := h.blk.cell 2
theorem Raw.st (h : Raw w g r cap l now depth) {i : Nat} (hi : i < l.length) : w.cell? ⟨r, i * 2, none⟩ = some (.int .i64 ((l.map (·.1))[i]?.getD 0 : Nat)) := by
  rw [h.row.cellAt (i * 2) (by omega), flat_get0]
  simp [List.getElem?_eq_getElem hi]
theorem Raw.by_ (h : Raw w g r cap l now depth) {i : Nat} (hi : i < l.length) : w.cell? ⟨r, i * 2 + 1, none⟩ = some (.int .i64 ((l.map (·.2))[i]?.getD 0 : Nat)) := by
  rw [h.row.cellAt (i * 2 + 1) (by omega), flat_get1]
  simp [List.getElem?_eq_getElem hi]
theorem Raw.fr (h : Raw w g r cap l now depth) (i : Nat) : w.frozen? ⟨r, i, none⟩ = false := h.row.frozenAt i
theorem Raw.drew (h : Raw w g r cap l now depth) : Raw w.drew g r cap l now depth := ⟨h.blk.drew, h.row⟩
theorem Raw.set0 (h : Raw w g r cap l now depth) (i s : Nat) : Raw (w.setCell ⟨r, i * 2, none⟩ (.int .i64 (s : Int))) g r cap (set0 l i s) now depth := by
  have hs := (h.row.stored (i * 2) (.int .i64 (s : Int))).1
  rw [flat_set0] at hs
  refine ⟨?_, by rw [set0_length]; exact hs⟩
  rw [set0_length]
  exact h.blk.far h.ne _
theorem Raw.set1 (h : Raw w g r cap l now depth) (i s : Nat) : Raw (w.setCell ⟨r, i * 2 + 1, none⟩ (.int .i64 (s : Int))) g r cap (set1 l i s) now depth := by
  have hs := (h.row.stored (i * 2 + 1) (.int .i64 (s : Int))).1
  rw [flat_set1] at hs
  refine ⟨?_, by rw [set1_length]; exact hs⟩
  rw [set1_length]
  exact h.blk.far h.ne _
theorem Raw.setNow (h : Raw w g r cap l now depth) (n : Nat) : Raw (w.setCell ⟨g, 1, none⟩ (.int .i64 (n : Int))) g r cap l n depth :=
  ⟨h.blk.set_ 1 _, ownsRow_setCell_other h.row (by simp [Value.ownBlock]; exact fun e => h.ne e.symm) _⟩
theorem Raw.setDepth (h : Raw w g r cap l now depth) (n : Nat) : Raw (w.setCell ⟨g, 2, none⟩ (.int .i64 (n : Int))) g r cap l now n :=
  ⟨h.blk.set_ 2 _, ownsRow_setCell_other h.row (by simp [Value.ownBlock]; exact fun e => h.ne e.symm) _⟩
theorem row_kept {F : Nat → Prop} {e : TypeId} {size : Nat} {r cap n : Nat} {xs : List Value} (h : w.ownsRow 0 e size (.slice (some ⟨r, 0, none⟩) n cap) n xs) (hk : Kept F w w') (hr : ¬ F r) :
    w'.ownsRow 0 e size (.slice (some ⟨r, 0, none⟩) n cap) n xs := by
  refine ⟨h.1, ?_⟩
  rcases h.2 with hh | ⟨g', cap', cur, hv, hb, hh, hrest⟩
  · exact .inl hh
  · have : r = g' := by simp at hv; exact hv.1
    subst this
    exact .inr ⟨r, cap', cur, hv, hb, (hk.block r (by rcases Nat.lt_or_ge r w.heap.size with hl | hl; exact hl; rw [Array.getElem?_eq_none hl] at hh; cases hh) hr).trans hh, hrest⟩
theorem Raw.kept {F : Nat → Prop} (h : Raw w g r cap l now depth) (hk : Kept F w w') (hg : ¬ F g) (hr : ¬ F r) : Raw w' g r cap l now depth :=
  ⟨h.blk.kept hk hg, row_kept h.row hk hr⟩
end

/-- The table t lies at block g, within the blocks F. -/
def PMem (w : World) (F : Nat → Prop) (g : Nat) (t : Tab) : Prop :=
  ∃ r cap l, F g ∧ F r ∧ (∀ k, F k → k < w.heap.size) ∧ Raw w g r cap l t.now (t.chain.length - 1) ∧ l.map (·.1) = t.sts ∧ Tab.Links t.chain (l.map (·.2))

/-- What a call leaves: the table t at block g, and nothing changed but its own blocks. -/
def PPost (w : World) (F : Nat → Prop) (g : Nat) (t : Tab) (w' : World) : Prop :=
  ∃ F', PMem w' F' g t ∧ Kept F w w' ∧ ∀ k, F' k → F k ∨ w.heap.size ≤ k

theorem PMem.same {w : World} {F : Nat → Prop} {g : Nat} {t : Tab} (h : PMem w F g t) : PPost w F g t w := ⟨F, h, Kept.refl _ _, fun _ h => .inl h⟩
theorem PMem.kept {w w' : World} {F G : Nat → Prop} {g : Nat} {t : Tab} (h : PMem w F g t) (hk : Kept G w w') (hd : ∀ k, F k → ¬ G k) : PMem w' F g t := by
  obtain ⟨r, cap, l, fg, fr, lt, raw, hs, hl⟩ := h
  exact ⟨r, cap, l, fg, fr, fun k hf => Nat.lt_of_lt_of_le (lt k hf) hk.size, raw.kept hk (hd g fg) (hd r fr), hs, hl⟩
theorem PMem.lt {w : World} {F : Nat → Prop} {g : Nat} {t : Tab} (h : PMem w F g t) : ∀ k, F k → k < w.heap.size := by
  obtain ⟨_, _, _, _, _, h, _⟩ := h
  exact h

end Go.Proofs.Ytmedmjngehkmoaa
