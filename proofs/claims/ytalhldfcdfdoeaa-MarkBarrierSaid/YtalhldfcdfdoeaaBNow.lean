/- What is proved here: the two appends by which MarkBarrier copies the graph, at a step of a region that draws its order. No condition. -/
import Derived.Test.YtalhldfcdfdoeaaBSt
namespace Go.Proofs.Ytalhldfcdfdoeaa
open Go.RowKit

/-- Any append at a step of a region that draws, by its run. -/
theorem step_append_eqT {T : TypeId} {ops : Array Oper} {o : Oper} {a : Act} {w w' : World} {K : Act → World → Prop} {Q : Exit → Act → World → Prop} {E : Prop} (hgd : o.guard = none) (s x : Operand)
    (ho : o.op = .call { callee := .builtin .append, args := #[s, x], argTypes := #[T, T] }) {vs vx v : Value} (hs : a.eval s = vs) (hx : a.eval x = vx)
    (hrun : (Builtin.append_ #[T, T] o.type #[vs, vx]).run Try.prog w = .ok v w') (h : K (a.put o.dst v) w') : if Region.wanted o (yielded ops a.tmps) = true then Oper.wp Try.prog o a w K Q else E := by
  have hw : Region.wanted o (yielded ops a.tmps) = true := by simp [Region.wanted, hgd]
  rw [if_pos hw]
  unfold Oper.wp execOp
  simp only [ho, resolve, invoke, builtin, Sem.run_bind, Sem.run_pure, Result.andThen_ok, List.map_toArray, List.map_cons, List.map_nil, hs, hx, hrun]
  exact h

theorem run_copy2 (w : World) (B : Nat) (hB : w.heap[B]? = some (.cells #[] 39 (0, 0))) {oA : Option Addr} {on oc : Nat} {os : List Ob} (h : Objs w oA on os) (hA : oA = none → on = 0) (hn : on ≤ 1000) :
    ∃ A' c' w', (Builtin.append_ #[22, 22] 22 #[.slice (some ⟨B, 0, none⟩) 0 0, .slice oA on oc]).run Try.prog w = .ok (.slice A' on c') w' ∧ w.grownBy w' (some B) ∧ (∃ r, A' = some ⟨r, 0, none⟩ ∧ (r = B ∨ w.heap.size ≤ r) ∧ ∃ cur : Array Value, w'.heap[r]? = some (.cells cur 39 (0, 0)) ∧ cur.toList.take (on * 5) = osCells os) := by
  obtain ⟨i0, hi0, hz0, hz1, hz2⟩ := info_parts Try.info39
  have ht := Try.underlying22
  have hl := h.len
  by_cases hm : on = 0
  · subst hm
    obtain rfl : os = [] := List.eq_nil_of_length_eq_zero hl
    refine ⟨some ⟨B, 0, none⟩, 0, w, ?_, World.grownBy.refl w _, B, rfl, .inl rfl, #[], hB, by simp [osCells]⟩
    cases oA with
    | none => simp [Builtin.append_, run_underlying ht, sizeOf, typeInfo, hi0, Builtin.lenOf, Builtin.firstCells, storeCells]
    | some a2 =>
      have hf := run_firstCells_some (P := Try.prog) w i0.size 0 a2 0 oc [] (by simp) (by simp)
      simp [Builtin.append_, run_underlying ht, sizeOf, typeInfo, hi0, Builtin.lenOf, hf, storeCells]
  · obtain ⟨b, off, rfl, hbl, hcells⟩ := h.at_ (by omega)
    have hnews : ∀ j u, (osCells os)[j]? = some u → w.cell? ((⟨b, off, none⟩ : Addr).add j) = some u := by
      intro j u hu
      have hj : j < on * 5 := by
        have := (List.getElem?_eq_some_iff.1 hu).1
        rw [osCells_length, hl] at this
        exact this
      have hi : j / 5 < os.length := by omega
      have ho : os[j / 5]? = some os[j / 5] := List.getElem?_eq_getElem hi
      have h2 := osCells_at ho (j := j % 5) (by omega)
      rw [show j / 5 * 5 + j % 5 = j by omega, hu] at h2
      obtain ⟨c0, c1, c2, c3, c4⟩ := hcells _ _ ho
      rw [Addr.add_lit, show off + j = off + (j / 5 * 5 + j % 5) by omega, h2]
      have : j % 5 = 0 ∨ j % 5 = 1 ∨ j % 5 = 2 ∨ j % 5 = 3 ∨ j % 5 = 4 := by omega
      rcases this with e | e | e | e | e <;> rw [e]
      · exact c0
      · exact c1
      · exact c2
      · exact c3
      · exact c4
    have h1c : ∀ u ∈ osCells os, u.oneCell' = true := by
      intro u hu
      obtain ⟨o, _, ho⟩ := List.mem_flatMap.1 hu
      simp [obCells] at ho
      rcases ho with rfl | rfl | rfl | rfl | rfl <;> rfl
    have hown : w.ownsRow 0 39 5 (.slice (some ⟨B, 0, none⟩) 0 0) 0 [] := ⟨rfl, .inr ⟨B, 0, #[], rfl, Nat.zero_le _, hB, Nat.le_refl _, Nat.zero_le _, rfl, rfl⟩⟩
    obtain ⟨v', w', hrun, r1, r2, r3, r4⟩ := run_append_own_at (P := Try.prog) w 0 22 22 39 i0 _ 5 72 ht hi0 hz0 hz1 hz2 rfl (by omega) (.slice (some ⟨B, 0, none⟩) 0 0) 0 [] hown ⟨b, off, none⟩ on oc _ (by rw [osCells_length, hl]) hnews h1c (by unfold maxLen; omega) (by omega) (Nat.zero_le _)
    obtain ⟨r, cap, cur, hv, _, hh', hle, hcm, hcs, htk⟩ := (r1.2.resolve_left (fun h => by omega))
    subst hv
    rw [Nat.zero_add] at hrun htk
    refine ⟨some ⟨r, 0, none⟩, cap, w', hrun, r2, r, rfl, ?_, cur, hh', by simpa using htk⟩
    rcases r4 with r4 | r4
    · simp [Value.ownBlock] at r4
      exact .inl r4
    · simp [Value.ownBlock] at r4
      exact .inr (by omega)

/-- What an append onto a new empty slice leaves of the blocks: W the world ahead of it, Bk the empty slice's block, r the result's. -/
structure Lays (w0 W W' : World) (Bk r : Nat) : Prop where
  new : w0.heap.size ≤ r
  here : r < W'.heap.size
  kept : Kept (fun _ => False) w0 W'
  block : ∀ k, k < W.heap.size → k ≠ Bk → W'.heap[k]? = W.heap[k]?
  size : W.heap.size ≤ W'.heap.size
  which : r = Bk ∨ W.heap.size ≤ r

theorem Lays.of {w0 W W' : World} {Bk r : Nat} (hk : Kept (fun _ => False) w0 W) (hg : W.grownBy W' (some Bk)) (hBn : w0.heap.size ≤ Bk) (hBl : Bk < W.heap.size) (hat : r = Bk ∨ W.heap.size ≤ r) (hrl : r < W'.heap.size) : Lays w0 W W' Bk r :=
  ⟨by have := hk.size; omega, hrl, hk.grown hg (fun k hk' hlt => by injection hk' with e; omega), fun k hlt hne => hg.block k hlt (fun e => hne (by injection e)), hg.size, hat⟩

theorem copO (w0 W : World) (Bk : Nat) {oA : Option Addr} {on oc : Nat} {os : List Ob} (hO : Objs w0 oA on os) (hA : oA = none → on = 0) (hn : on ≤ 1000) (hk : Kept (fun _ => False) w0 W) (hB : W.heap[Bk]? = some (.cells #[] 39 (0, 0))) (hBn : w0.heap.size ≤ Bk) :
    ∃ c' W' r, (Builtin.append_ #[22, 22] 22 #[.slice (some ⟨Bk, 0, none⟩) 0 0, .slice oA on oc]).run Try.prog W = .ok (.slice (some ⟨r, 0, none⟩) on c') W' ∧ Lays w0 W W' Bk r ∧ ∃ cur : Array Value, W'.heap[r]? = some (.cells cur 39 (0, 0)) ∧ cur.toList.take (on * 5) = osCells os := by
  obtain ⟨A', c', W', hrun, hg, r, rfl, hat, cur, hc, ht⟩ := run_copy2 W Bk hB (oc := oc) (hO.later hk) hA hn
  exact ⟨c', W', r, hrun, Lays.of hk hg hBn (Array.getElem?_eq_some_iff.1 hB).1 hat (Array.getElem?_eq_some_iff.1 hc).1, cur, hc, ht⟩

theorem copR (w0 W : World) (Bk : Nat) {rA : Option Addr} {rn rc : Nat} {rs : List Int} (hS : Src w0 rA rn rs) (hA : rA = none → rn = 0) (hn : rn ≤ 1000) (hk : Kept (fun _ => False) w0 W) (hB : W.heap[Bk]? = some (.cells #[] 3 (0, 0))) (hBn : w0.heap.size ≤ Bk) :
    ∃ A' c' W' r, (Builtin.append_ #[23, 23] 23 #[.slice (some ⟨Bk, 0, none⟩) 0 0, .slice rA rn rc]).run Try.prog W = .ok (.slice A' rn c') W' ∧ Lays w0 W W' Bk r ∧ rowBlk A' = some r ∧ Row W' A' rn c' rs := by
  have hrow : Row W (some ⟨Bk, 0, none⟩) 0 0 [] := ⟨rfl, Nat.le_refl _, Nat.zero_le _, .inr ⟨Bk, 0, #[], rfl, hB, by simp, fun j hj => by omega⟩⟩
  obtain ⟨A', c', W', hrun, hr, hg, hat⟩ := run_append_Row W 23 (c2 := rc) hrow (hS.kept hk (fun _ _ h => h)) hA (by omega)
  rw [Nat.zero_add] at hrun hr
  rw [List.nil_append] at hr
  rcases hat with h | ⟨r, h, hr'⟩
  · exact ⟨A', c', W', Bk, hrun, Lays.of hk hg hBn (Array.getElem?_eq_some_iff.1 hB).1 (.inl rfl) (hr.blk_lt h), h, hr⟩
  · exact ⟨A', c', W', r, hrun, Lays.of hk hg hBn (Array.getElem?_eq_some_iff.1 hB).1 (.inr hr') (hr.blk_lt h), h, hr⟩

theorem heapAt_alloc (w : World) (o : Obj) (k : Nat) : (w.alloc o).heap[k]? = if k = w.heap.size then some o else w.heap[k]? := by
  show (w.heap.push o)[k]? = _
  rw [Array.getElem?_push]
theorem heapAt_drew (w : World) (k : Nat) : w.drew.heap[k]? = w.heap[k]? := rfl

theorem step_copO {ops : Array Oper} {o : Oper} {a : Act} {W : World} {K : Act → World → Prop} {Q : Exit → Act → World → Prop} {E : Prop} (hgd : o.guard = none) (s x : Operand)
    (ho : o.op = .call { callee := .builtin .append, args := #[s, x], argTypes := #[22, 22] }) (hty : o.type = 22) (w0 : World) (Bk : Nat) {oA : Option Addr} {on oc : Nat} {os : List Ob} (hs : a.eval s = .slice (some ⟨Bk, 0, none⟩) 0 0) (hx : a.eval x = .slice oA on oc)
    (hO : Objs w0 oA on os) (hA : oA = none → on = 0) (hn : on ≤ 1000) (hk : Kept (fun _ => False) w0 W) (hB : W.heap[Bk]? = some (.cells #[] 39 (0, 0))) (hBn : w0.heap.size ≤ Bk)
    (h : ∀ c' W' r, Lays w0 W W' Bk r → (∃ cur : Array Value, W'.heap[r]? = some (.cells cur 39 (0, 0)) ∧ cur.toList.take (on * 5) = osCells os) → K (a.put o.dst (.slice (some ⟨r, 0, none⟩) on c')) W') : if Region.wanted o (yielded ops a.tmps) = true then Oper.wp Try.prog o a W K Q else E := by
  obtain ⟨c', W', r, hrun, hl, hc⟩ := copO w0 W Bk (oc := oc) hO hA hn hk hB hBn
  rw [← hty] at hrun
  exact step_append_eqT hgd s x ho hs hx (by rw [hty] at hrun ⊢; exact hrun) (h c' W' r hl hc)

theorem step_copR {ops : Array Oper} {o : Oper} {a : Act} {W : World} {K : Act → World → Prop} {Q : Exit → Act → World → Prop} {E : Prop} (hgd : o.guard = none) (s x : Operand)
    (ho : o.op = .call { callee := .builtin .append, args := #[s, x], argTypes := #[23, 23] }) (hty : o.type = 23) (w0 : World) (Bk : Nat) {rA : Option Addr} {rn rc : Nat} {rs : List Int} (hs : a.eval s = .slice (some ⟨Bk, 0, none⟩) 0 0) (hx : a.eval x = .slice rA rn rc)
    (hS : Src w0 rA rn rs) (hA : rA = none → rn = 0) (hn : rn ≤ 1000) (hk : Kept (fun _ => False) w0 W) (hB : W.heap[Bk]? = some (.cells #[] 3 (0, 0))) (hBn : w0.heap.size ≤ Bk)
    (h : ∀ A' c' W' r, Lays w0 W W' Bk r → rowBlk A' = some r → Row W' A' rn c' rs → K (a.put o.dst (.slice A' rn c')) W') : if Region.wanted o (yielded ops a.tmps) = true then Oper.wp Try.prog o a W K Q else E := by
  obtain ⟨A', c', W', r, hrun, hl, hr, hrow⟩ := copR w0 W Bk (rc := rc) hS hA hn hk hB hBn
  exact step_append_eqT hgd s x ho hs hx (by rw [hty]; exact hrun) (h A' c' W' r hl hr hrow)

/-- The copy of the graph, as it lies at first. -/
def Now0 (w0 wx : World) (v : Value) (on : Nat) (os : List Ob) (rs : List Int) : Prop :=
  ∃ B NB nc rA rc R, v = .pointer (some ⟨B, 0, none⟩) ∧ Blk wx B 25 #[.slice (some ⟨NB, 0, none⟩) on nc, .slice rA rs.length rc] ∧ (∃ cur : Array Value, wx.heap[NB]? = some (.cells cur 39 (0, 0)) ∧ cur.toList.take (on * 5) = osCells os) ∧ Row wx rA rs.length rc rs ∧ rowBlk rA = some R ∧
    w0.heap.size ≤ B ∧ w0.heap.size ≤ NB ∧ w0.heap.size ≤ R ∧ B ≠ NB ∧ B ≠ R ∧ NB ≠ R ∧ Kept (fun _ => False) w0 wx

/-- Both copies are made. -/
structure Two (w0 W : World) (r3 r7 : Nat) (A7 : Option Addr) (c7 on : Nat) (os : List Ob) (rs : List Int) : Prop where
  cells : ∃ cur : Array Value, W.heap[r3]? = some (.cells cur 39 (0, 0)) ∧ cur.toList.take (on * 5) = osCells os
  n3 : w0.heap.size ≤ r3
  n7 : w0.heap.size ≤ r7
  ne : r3 ≠ r7
  at7 : rowBlk A7 = some r7
  row : Row W A7 rs.length c7 rs
  kept : Kept (fun _ => False) w0 W

theorem Two.of {w0 W3 W W7 : World} {Bk r3 r7 : Nat} {A7 : Option Addr} {c7 on : Nat} {os : List Ob} {rs : List Int} (h7 : Lays w0 W W7 Bk r7) (hc : ∃ cur : Array Value, W3.heap[r3]? = some (.cells cur 39 (0, 0)) ∧ cur.toList.take (on * 5) = osCells os) (hn : w0.heap.size ≤ r3) (hl3 : r3 < W.heap.size) (h3 : W.heap[r3]? = W3.heap[r3]?) (hne : r3 ≠ Bk)
    (hat : rowBlk A7 = some r7) (hrow : Row W7 A7 rs.length c7 rs) : Two w0 W7 r3 r7 A7 c7 on os rs := by
  obtain ⟨cur, hc, ht⟩ := hc
  refine ⟨⟨cur, ?_, ht⟩, hn, h7.new, ?_, hat, hrow, h7.kept⟩
  · rw [h7.block r3 hl3 hne, h3, hc]
  · rcases h7.which with h | h
    · rw [h]; exact hne
    · omega

theorem Two.late {w0 W : World} {r3 r7 c3 : Nat} {A7 : Option Addr} {c7 on : Nat} {os : List Ob} {rs : List Int} (h : Two w0 W r3 r7 A7 c7 on os rs) {rn : Nat} (hrn : rs.length = rn) : Now0 w0 (W.alloc (.cells #[.slice (some ⟨r3, 0, none⟩) on c3, .slice A7 rn c7] 25)) (.pointer (some ⟨W.heap.size, 0, none⟩)) on os rs := by
  subst hrn
  obtain ⟨cur, hc, ht⟩ := h.cells
  have hl3 := (Array.getElem?_eq_some_iff.1 hc).1
  have hl7 := h.row.blk_lt h.at7
  have ka : Kept (fun _ => False) W (W.alloc (.cells #[.slice (some ⟨r3, 0, none⟩) on c3, .slice A7 rs.length c7] 25)) := (Kept.refl _ W).alloc _
  exact ⟨W.heap.size, r3, c3, A7, c7, r7, rfl, Blk.new W 25 _, ⟨cur, (ka.block r3 hl3 (by simp)).trans hc, ht⟩, h.row.kept ka (by simp), h.at7, h.kept.size, h.n3, h.n7, by omega, by omega, h.ne, h.kept.trans ka (fun _ _ h => h)⟩

theorem Two.early {w0 W : World} {r3 r7 c3 : Nat} {A7 : Option Addr} {c7 on : Nat} {os : List Ob} {rs : List Int} (h : Two w0 W r3 r7 A7 c7 on os rs) {rn : Nat} (hrn : rs.length = rn) {B : Nat} (hB : Blk W B 25 #[.slice none 0 0, .slice none 0 0]) (hBn : w0.heap.size ≤ B) (hB7 : B ≠ r7) :
    Now0 w0 ((W.setCell ⟨B, 0, none⟩ (.slice (some ⟨r3, 0, none⟩) on c3)).setCell ⟨B, 1, none⟩ (.slice A7 rn c7)) (.pointer (some ⟨B, 0, none⟩)) on os rs := by
  subst hrn
  obtain ⟨cur, hc, ht⟩ := h.cells
  have hl3 := (Array.getElem?_eq_some_iff.1 hc).1
  have hB3 : B ≠ r3 := by
    rintro rfl
    unfold Blk at hB
    rw [hB] at hc
    injection hc with hc
    injection hc with _ hc
    cases hc
  have ka : Kept (fun k => k = B) W ((W.setCell ⟨B, 0, none⟩ (.slice (some ⟨r3, 0, none⟩) on c3)).setCell ⟨B, 1, none⟩ (.slice A7 rs.length c7)) := ((Kept.refl (fun k => k = B) W).setCell (fun _ => rfl) _).setCell (fun _ => rfl) _
  exact ⟨B, r3, c3, A7, c7, r7, rfl, by simpa using (hB.set_ 0 (.slice (some ⟨r3, 0, none⟩) on c3)).set_ 1 (.slice A7 rs.length c7), ⟨cur, (ka.block r3 hl3 (fun e => hB3 e.symm)).trans hc, ht⟩, h.row.kept ka (fun r hr e => by rw [h.at7] at hr; injection hr with hr; exact hB7 (by rw [hr, e])), h.at7, hBn, h.n3, h.n7, hB3, hB7, h.ne, h.kept.trans ka (fun i hi e => by omega)⟩

theorem Lays.blk9 {w0 W W' : World} {Bk r : Nat} (h : Lays w0 W W' Bk r) {B : Nat} (hB : W.heap[B]? = some (.cells #[.slice none 0 0, .slice none 0 0] 25 (0, 0))) (hne : B ≠ Bk) (hr : B ≠ r) : Blk W' B 25 #[.slice none 0 0, .slice none 0 0] ∧ B ≠ r :=
  ⟨(h.block B (Array.getElem?_eq_some_iff.1 hB).1 hne).trans hB, hr⟩

theorem at_hit {w : World} {o : Obj} {k : Nat} (h : k = w.heap.size) : (w.alloc o).heap[k]? = some o := by rw [heapAt_alloc, if_pos h]
theorem at_miss {w : World} {o : Obj} {k : Nat} {v : Option Obj} (h : w.heap[k]? = v) (hne : k ≠ w.heap.size) : (w.alloc o).heap[k]? = v := by rw [heapAt_alloc, if_neg hne]; exact h
theorem at_drew {w : World} {k : Nat} {v : Option Obj} (h : w.heap[k]? = v) : w.drew.heap[k]? = v := h
theorem at_lays {w0 W W' : World} {Bk r k : Nat} {v : Obj} (h : Lays w0 W W' Bk r) (hk : W.heap[k]? = some v) (hne : k ≠ Bk) : W'.heap[k]? = some v := (h.block k (Array.getElem?_eq_some_iff.1 hk).1 hne).trans hk
theorem at_none {w : World} {k : Nat} {v : Option Obj} (h : w.heap[k]? = v) : w.heap[k]? = v := h
theorem size_drew (w : World) : w.drew.heap.size = w.heap.size := rfl
theorem cutP {p q : Prop} (hp : p) (h : p → q) : q := h hp
theorem two_far {W : World} {B k : Nat} {v0 v1 : Value} {a b : Option Value} (hne : k ≠ B) (h0 : W.cell? ⟨k, 0, none⟩ = a) (h1 : W.cell? ⟨k, 1, none⟩ = b) :
    ((W.setCell ⟨B, 0, none⟩ v0).setCell ⟨B, 1, none⟩ v1).cell? ⟨k, 0, none⟩ = a ∧ ((W.setCell ⟨B, 0, none⟩ v0).setCell ⟨B, 1, none⟩ v1).cell? ⟨k, 1, none⟩ = b := by
  have hb : ((W.setCell ⟨B, 0, none⟩ v0).setCell ⟨B, 1, none⟩ v1).heap[k]? = W.heap[k]? := (Below.heap_setCell _ ⟨B, 1, none⟩ v1 k hne).trans (Below.heap_setCell W ⟨B, 0, none⟩ v0 k hne)
  exact ⟨(World.cell?_of_block (a := ⟨k, 0, none⟩) hb).trans h0, (World.cell?_of_block (a := ⟨k, 1, none⟩) hb).trans h1⟩
theorem step_add {ops : Array Oper} {o : Oper} {a : Act} {W : World} {K : Act → World → Prop} {Q : Exit → Act → World → Prop} {E : Prop} (hgd : o.guard = none) (s x : Operand)
    (ho : o.op = .call { callee := .builtin .append, args := #[s, x], argTypes := #[23, 23] }) (hty : o.type = 23) (w0 : World) {A : Option Addr} {rl c Y : Nat} {refs : List Int} {y : Int} (hs : a.eval s = .slice A rl c) (hx : a.eval x = .slice (some ⟨Y, 0, none⟩) 1 1)
    (hrow : Row W A rl c refs) (hY : W.heap[Y]? = some (.cells #[.int .i64 y] 3 (0, 0))) (hk : Kept (fun _ => False) w0 W) (hr : ∀ r, rowBlk A = some r → w0.heap.size ≤ r) (hn : rl ≤ 1000)
    (h : ∀ A' c' W', Row W' A' (rl + 1) c' (refs ++ [y]) → (∀ r, rowBlk A' = some r → w0.heap.size ≤ r) → Kept (fun _ => False) w0 W' → K (a.put o.dst (.slice A' (rl + 1) c')) W') : if Region.wanted o (yielded ops a.tmps) = true then Oper.wp Try.prog o a W K Q else E := by
  have hsrc : Src W (some ⟨Y, 0, none⟩) 1 [y] := ⟨rfl, fun _ => ⟨Y, 0, rfl, (Array.getElem?_eq_some_iff.1 hY).1, fun j hj => by
    obtain rfl : j = 0 := by omega
    rw [cell_of_row W Y (0 + 0) _ 3 (0, 0) hY]
    rfl⟩⟩
  obtain ⟨A', c', W', hrun, hrow', hg, hat⟩ := run_append_Row W 23 (c2 := 1) hrow hsrc (by simp) (by omega)
  refine step_append_eqT hgd s x ho hs hx (by rw [hty]; exact hrun) (h A' c' W' hrow' (fun r hr' => ?_) (hk.grown hg (fun k hk' hlt => by have := hr k hk'; omega)))
  rcases hat with h' | ⟨r', h', hr''⟩
  · rw [h'] at hr'; exact hr r hr'
  · rw [h'] at hr'
    injection hr' with hr'
    have := hk.size
    omega
theorem one_far {W : World} {N n k1 k2 o1 o2 : Nat} {v : Value} {a b : Option Value} (h1 : k1 ≠ N) (h2 : k2 ≠ N) (e1 : W.cell? ⟨k1, o1, none⟩ = a) (e2 : W.cell? ⟨k2, o2, none⟩ = b) :
    (W.setCell ⟨N, n, none⟩ v).cell? ⟨k1, o1, none⟩ = a ∧ (W.setCell ⟨N, n, none⟩ v).cell? ⟨k2, o2, none⟩ = b :=
  ⟨(World.cell?_of_block (a := ⟨k1, o1, none⟩) (Below.heap_setCell W ⟨N, n, none⟩ v k1 h1)).trans e1, (World.cell?_of_block (a := ⟨k2, o2, none⟩) (Below.heap_setCell W ⟨N, n, none⟩ v k2 h2)).trans e2⟩
end Go.Proofs.Ytalhldfcdfdoeaa
