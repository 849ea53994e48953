/- What is proved here: slices of numbers at any place of a row of the call's own, and append onto them. No condition. -/
import Derived.Test.YtalhldfcdfdoeaaBase
import Derived.ArgAppend
import Derived.Laws.AppendOwnNone
namespace Go.Proofs.Ytalhldfcdfdoeaa
open Go.RowKit

theorem Try.info3 : (Try.prog.info? 3).map (fun i => (i.zero, i.size, i.bytes)) = some (some (.int .i64 0), 1, 8) := by kernel_rfl

def rowBlk (A : Option Addr) : Option Nat := A.map Addr.block

/-- The slice at A, of length n and capacity c, holds the numbers xs, in a row that may be written. -/
def Row (w : World) (A : Option Addr) (n c : Nat) (xs : List Int) : Prop :=
  xs.length = n ∧ n ≤ c ∧ c ≤ maxLen ∧ ((A = none ∧ c = 0) ∨ ∃ g off cur, A = some ⟨g, off, none⟩ ∧ w.heap[g]? = some (.cells cur 3 (0, 0)) ∧ off + c ≤ cur.size ∧ ∀ j, j < n → cur[off + j]? = (xs[j]?).map fun x => Value.int .i64 x)

/-- The slice at A, of length n, holds the numbers ys (it is only read). -/
def Src (w : World) (A : Option Addr) (n : Nat) (ys : List Int) : Prop :=
  ys.length = n ∧ (0 < n → ∃ g off, A = some ⟨g, off, none⟩ ∧ g < w.heap.size ∧ ∀ j, j < n → w.cell? ⟨g, off + j, none⟩ = (ys[j]?).map fun x => Value.int .i64 x)

section
variable {w w' : World} {A : Option Addr} {n c : Nat} {xs : List Int}
theorem Row.nil (w : World) : Row w none 0 0 [] := ⟨rfl, Nat.le_refl _, Nat.zero_le _, .inl ⟨rfl, rfl⟩⟩
theorem Row.blk_lt (h : Row w A n c xs) {g : Nat} (hg : rowBlk A = some g) : g < w.heap.size := by
  obtain ⟨_, _, _, h | ⟨g', off, cur, rfl, hh, _⟩⟩ := h
  · rw [h.1] at hg; cases hg
  · simp [rowBlk] at hg
    subst hg
    exact (Array.getElem?_eq_some_iff.1 hh).1
theorem Row.src (h : Row w A n c xs) : Src w A n xs := by
  refine ⟨h.1, fun hn => ?_⟩
  have hlt := h.blk_lt (g := (A.map Addr.block).getD 0)
  obtain ⟨h1, h2, h3, h | ⟨g, off, cur, rfl, hh, hs, hc⟩⟩ := h
  · omega
  · refine ⟨g, off, rfl, by simpa [rowBlk] using hlt, fun j hj => ?_⟩
    rw [cell_of_row w g (off + j) cur 3 (0, 0) hh]
    exact hc j hj
theorem Row.kept {F : Nat → Prop} (h : Row w A n c xs) (hk : Kept F w w') (hF : ∀ g, rowBlk A = some g → ¬ F g) : Row w' A n c xs := by
  have hlt := fun g => h.blk_lt (g := g)
  obtain ⟨h1, h2, h3, h | ⟨g, off, cur, rfl, hh, hs, hc⟩⟩ := h
  · exact ⟨h1, h2, h3, .inl h⟩
  · exact ⟨h1, h2, h3, .inr ⟨g, off, cur, rfl, (hk.block g (hlt g rfl) (hF g rfl)).trans hh, hs, hc⟩⟩
theorem Src.kept {F : Nat → Prop} (h : Src w A n xs) (hk : Kept F w w') (hF : ∀ g, rowBlk A = some g → ¬ F g) : Src w' A n xs := by
  refine ⟨h.1, fun hn => ?_⟩
  obtain ⟨g, off, rfl, hg, hc⟩ := h.2 hn
  exact ⟨g, off, rfl, Nat.lt_of_lt_of_le hg hk.size, fun j hj => (hk.cell (p := ⟨g, off + j, none⟩) hg (hF g rfl)).trans (hc j hj)⟩
theorem Src.at_ (h : Src w A n xs) {j : Nat} (hj : j < n) : ∃ g off x, A = some ⟨g, off, none⟩ ∧ g < w.heap.size ∧ xs[j]? = some x ∧ w.cell? ⟨g, off + j, none⟩ = some (.int .i64 x) := by
  obtain ⟨g, off, e, hg, hc⟩ := h.2 (by omega)
  have hl := h.1
  have hx : xs[j]? = some xs[j] := List.getElem?_eq_getElem (by omega)
  exact ⟨g, off, xs[j], e, hg, hx, by rw [hc j hj, hx]; rfl⟩
/-- A new row. -/
theorem Row.new (w : World) (xs : List Int) (hl : xs.length ≤ maxLen) : Row (w.alloc (.cells (xs.map fun x => Value.int .i64 x).toArray 3)) (some ⟨w.heap.size, 0, none⟩) xs.length xs.length xs := by
  refine ⟨rfl, Nat.le_refl _, hl, .inr ⟨w.heap.size, 0, _, rfl, heap_alloc_new w _, by simp, fun j hj => by simp⟩⟩
theorem Row.tail {x : Int} (h : Row w A (n + 1) c (x :: xs)) : Row w (if c = 1 then A else A.map (·.add 1)) n (c - 1) xs := by
  obtain ⟨h1, h2, h3, h | ⟨g, off, cur, rfl, hh, hs, hc⟩⟩ := h
  · omega
  · refine ⟨by simpa using h1, by omega, by omega, ?_⟩
    by_cases e : c = 1
    · rw [if_pos e]
      have : n = 0 := by omega
      subst this
      exact .inr ⟨g, off, cur, rfl, hh, by omega, fun j hj => by omega⟩
    · rw [if_neg e]
      refine .inr ⟨g, off + 1, cur, by simp [Addr.add], hh, by omega, fun j hj => ?_⟩
      have := hc (j + 1) (by omega)
      rw [show off + 1 + j = off + (j + 1) by omega, this]
      simp
theorem Row.tail_blk {c : Nat} (A : Option Addr) : rowBlk (if c = 1 then A else A.map (·.add 1)) = rowBlk A := by
  by_cases e : c = 1
  · rw [if_pos e]
  · rw [if_neg e]
    cases A with
    | none => rfl
    | some a => simp [rowBlk, Addr.add]
end

theorem setCells_block (b : Nat) : ∀ (vs : List Value) (o : Nat) (w : World) (cur : Array Value), w.heap[b]? = some (.cells cur 3 (0, 0)) → o + vs.length ≤ cur.size →
    ∃ cur', (w.setCells b o vs).heap[b]? = some (.cells cur' 3 (0, 0)) ∧ cur'.size = cur.size ∧ (∀ j, j < o → cur'[j]? = cur[j]?) ∧ (∀ j, j < vs.length → cur'[o + j]? = vs[j]?)
  | [], o, w, cur, h, _ => ⟨cur, h, rfl, fun _ _ => rfl, fun j hj => by simp at hj⟩
  | v :: r, o, w, cur, h, hs => by
    have h1 : (w.setCell ⟨b, o, none⟩ v).heap[b]? = some (.cells (cur.setIfInBounds o v) 3 (0, 0)) := heap_setCell_same w b o cur 3 v h
    obtain ⟨cur', q1, q2, q3, q4⟩ := setCells_block b r (o + 1) _ _ h1 (by simp at hs ⊢; omega)
    refine ⟨cur', q1, by simpa using q2, fun j hj => ?_, fun j hj => ?_⟩
    · rw [q3 j (by omega), Array.getElem?_setIfInBounds_ne (by omega)]
    · cases j with
      | zero =>
        have hlt : o < cur.size := by simp at hs; omega
        rw [Nat.add_zero, q3 o (by omega), Array.getElem?_setIfInBounds, if_pos rfl, if_pos hlt]
        rfl
      | succ j =>
        have := q4 j (by simpa using hj)
        rw [show o + (j + 1) = o + 1 + j by omega, this]
        simp
theorem grown_setCells (b : Nat) : ∀ (vs : List Value) (o : Nat) (w : World), w.grownBy (w.setCells b o vs) (some b)
  | [], _, w => World.grownBy.refl w _
  | v :: r, o, w => by
    have h := grown_setCells b r (o + 1) (w.setCell ⟨b, o, none⟩ v)
    have hz : (w.setCell ⟨b, o, none⟩ v).heap.size = w.heap.size := by simp [World.setCell]
    exact ⟨h.os, h.tape, h.output, by rw [← hz]; exact h.size, fun k hk hne => (h.block k (by omega) hne).trans (Below.heap_setCell w ⟨b, o, none⟩ v k (fun e => hne (by rw [e])))⟩

/-- append onto such a slice. -/
theorem run_append_Row (w : World) (ty : TypeId) {A : Option Addr} {n c : Nat} {xs : List Int} (h : Row w A n c xs) {A2 : Option Addr} {m c2 : Nat} {ys : List Int} (hs : Src w A2 m ys) (hA2 : A2 = none → m = 0)
    (hb : (n + m) * 8 ≤ 140737488355328) :
    ∃ A' c' w', (Builtin.append_ #[23, 23] ty #[.slice A n c, .slice A2 m c2]).run Try.prog w = .ok (.slice A' (n + m) c') w' ∧ Row w' A' (n + m) c' (xs ++ ys) ∧ w.grownBy w' (rowBlk A) ∧
      (rowBlk A' = rowBlk A ∨ ∃ r, rowBlk A' = some r ∧ w.heap.size ≤ r) := by
  obtain ⟨i0, hi0, hz0, hz1, hz2⟩ := info_parts Try.info3
  have ht := Try.underlying23
  have hyl := hs.1
  have hxl := h.1
  by_cases hm : m = 0
  · subst hm
    obtain rfl : ys = [] := List.eq_nil_of_length_eq_zero hyl
    refine ⟨A, c, w, ?_, by simpa using h, World.grownBy.refl w _, .inl rfl⟩
    have hnc := h.2.1
    cases A2 with
    | none => cases A <;> simp [Builtin.append_, run_underlying ht, sizeOf, typeInfo, hi0, Builtin.lenOf, Builtin.firstCells, hnc, storeCells]
    | some a2 =>
      have hf := run_firstCells_some (P := Try.prog) w i0.size 0 a2 0 c2 [] (by simp) (by simp)
      cases A <;> simp [Builtin.append_, run_underlying ht, sizeOf, typeInfo, hi0, Builtin.lenOf, hf, hnc, storeCells]
  · obtain ⟨g2, off2, rfl, hg2, hc2⟩ := hs.2 (by omega)
    have hnews : ∀ j u, (ys.map fun x => Value.int .i64 x)[j]? = some u → w.cell? ((⟨g2, off2, none⟩ : Addr).add j) = some u := by
      intro j u hu
      have hj : j < m := by
        rw [List.getElem?_map] at hu
        rcases Nat.lt_or_ge j ys.length with hl | hl
        · omega
        · rw [List.getElem?_eq_none hl] at hu; cases hu
      rw [Addr.add_lit, hc2 j hj, ← List.getElem?_map]
      exact hu
    have h1c : ∀ u ∈ (ys.map fun x => Value.int .i64 x), u.oneCell' = true := by
      intro u hu
      obtain ⟨y, _, rfl⟩ := List.mem_map.1 hu
      rfl
    have hmax : n + m ≤ maxLen := by unfold maxLen; omega
    obtain ⟨h1, h2, h3, ⟨rfl, rfl⟩ | ⟨g, off, cur, rfl, hh, hsz, hc⟩⟩ := h
    · have hn0 : n = 0 := by omega
      subst hn0
      obtain rfl : xs = [] := List.eq_nil_of_length_eq_zero h1
      obtain ⟨v', w', hrun, r1, r2, r3, r4⟩ := run_append_own_at (P := Try.prog) w 0 23 ty 3 i0 (.int .i64 0) 1 8 ht hi0 hz0 hz1 hz2 rfl (by omega) (.slice none 0 0) 0 [] (World.ownsRow_nil w _ 3 1) ⟨g2, off2, none⟩ m c2 _ (by simp [hyl]) hnews h1c hmax hb (Nat.zero_le _)
      obtain ⟨r, cap, cur, hv, _, hh', hle, hcm, hcs, htk⟩ := (r1.2.resolve_left (fun h => by omega))
      subst hv
      refine ⟨some ⟨r, 0, none⟩, cap, w', hrun, ⟨by simp [hyl], hle, hcm, .inr ⟨r, 0, cur, rfl, hh', by omega, fun j hj => ?_⟩⟩, r2, ?_⟩
      · have : (cur.toList.take ((0 + m) * 1))[j]? = ([] ++ ys.map fun x => Value.int .i64 x)[j]? := by rw [htk]
        rw [List.getElem?_take, if_pos (by omega)] at this
        simpa using this
      · rcases r4 with r4 | r4
        · simp [Value.ownBlock] at r4
        · simp [Value.ownBlock] at r4
          exact .inr ⟨r, rfl, by omega⟩
    · by_cases hroom : n + m ≤ c
      · have hcell : ∀ j, j < (ys.map fun x => Value.int .i64 x).length → (w.cell? ⟨g, off + n * i0.size + j, none⟩).isSome = true := by
          intro j hj
          simp at hj
          rw [cell_of_row w g _ cur 3 (0, 0) hh, hz1]
          simp
          omega
        have hfr : ∀ j, j < (ys.map fun x => Value.int .i64 x).length → w.frozen? ⟨g, off + n * i0.size + j, none⟩ = false := fun j _ => frozen_of_row w g _ cur 3 hh
        have hrun := run_append_room_cells (P := Try.prog) w 23 ty 3 i0 ht hi0 g off n c ⟨g2, off2, none⟩ m c2 _ (by simp [hyl, hz1]) hnews h1c hroom hcell hfr
        rw [hz1] at hrun
        obtain ⟨cur', q1, q2, q3, q4⟩ := setCells_block g (ys.map fun x => Value.int .i64 x) (off + n * 1) w cur hh (by simp; omega)
        refine ⟨some ⟨g, off, none⟩, c, _, hrun, ⟨by simp; omega, hroom, h3, .inr ⟨g, off, cur', rfl, q1, by omega, fun j hj => ?_⟩⟩, grown_setCells g _ _ w, .inl rfl⟩
        by_cases hjn : j < n
        · rw [q3 (off + j) (by omega), hc j hjn, List.getElem?_append_left (by omega)]
        · have := q4 (j - n) (by simp; omega)
          rw [show off + n * 1 + (j - n) = off + j by omega] at this
          rw [this, List.getElem?_append_right (by omega), h1]
          simp
      · have holds : ∀ j u, (xs.map fun x => Value.int .i64 x)[j]? = some u → w.cell? ((⟨g, off, none⟩ : Addr).add j) = some u := by
          intro j u hu
          have hj : j < n := by
            rw [List.getElem?_map] at hu
            rcases Nat.lt_or_ge j xs.length with hl | hl
            · omega
            · rw [List.getElem?_eq_none hl] at hu; cases hu
          rw [Addr.add_lit, cell_of_row w g _ cur 3 (0, 0) hh, hc j hj, ← List.getElem?_map]
          exact hu
        obtain ⟨v', w', hrun, r1, r2⟩ := run_append_arg_grows (P := Try.prog) w 23 ty 3 i0 (.int .i64 0) 1 8 ht hi0 hz0 hz1 hz2 rfl (by omega) ⟨g, off, none⟩ n c (xs.map fun x => Value.int .i64 x) (by simp [h1]) holds ⟨g2, off2, none⟩ m c2 _ (by simp [hyl]) hnews (by omega) hmax hb
        obtain ⟨r, cap, cur', hv, hbase, hh', hle, hcm, hcs, htk⟩ := (r1.2.resolve_left (fun h => by omega))
        subst hv
        refine ⟨some ⟨r, 0, none⟩, cap, w', hrun, ⟨by simp; omega, hle, hcm, .inr ⟨r, 0, cur', rfl, hh', by omega, fun j hj => ?_⟩⟩, ⟨r2.os, r2.tape, r2.output, r2.size, fun k hk _ => r2.block k hk (by simp)⟩, .inr ⟨r, rfl, hbase⟩⟩
        have : (cur'.toList.take ((n + m) * 1))[j]? = ((xs.map fun x => Value.int .i64 x) ++ ys.map fun x => Value.int .i64 x)[j]? := by rw [htk]
        rw [List.getElem?_take, if_pos (by omega), ← List.map_append, List.getElem?_map] at this
        simpa using this

/-- .. at the operation, for the walk. -/
theorem wpList_append_Row (w : World) {ops : Array Oper} {rest : List Oper} {o : Oper} {a : Act} {Q : Exit → Act → World → Prop} (hgd : o.guard = none) (s x : Operand)
    (ho : o.op = .call { callee := .builtin .append, args := #[s, x], argTypes := #[23, 23] })
    (A : Option Addr) (n c : Nat) (xs : List Int) (hs : a.eval s = .slice A n c) (h : Row w A n c xs) (A2 : Option Addr) (m c2 : Nat) (ys : List Int) (hx : a.eval x = .slice A2 m c2) (h2 : Src w A2 m ys) (hA2 : A2 = none → m = 0)
    (hb : (n + m) * 8 ≤ 140737488355328)
    (hK : ∀ A' c' w', Row w' A' (n + m) c' (xs ++ ys) → w.grownBy w' (rowBlk A) → (rowBlk A' = rowBlk A ∨ ∃ r, rowBlk A' = some r ∧ w.heap.size ≤ r) → wpList Try.prog ops Q rest (a.put o.dst (.slice A' (n + m) c')) w') :
    wpList Try.prog ops Q (o :: rest) a w := by
  refine wpList_plain hgd fun K hK' => ?_
  obtain ⟨A', c', w', hrun, r1, r2, r3⟩ := run_append_Row w o.type (c2 := c2) h h2 hA2 hb
  unfold Oper.wp execOp
  simp only [ho, resolve, invoke, builtin, Sem.run_bind, Sem.run_pure, Result.andThen_ok, List.map_toArray, List.map_cons, List.map_nil, hs, hx, hrun]
  exact hK' _ _ (hK A' c' w' r1 r2 r3)

end Go.Proofs.Ytalhldfcdfdoeaa
