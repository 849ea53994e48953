/- What is proved here: the memory of MarkBarrier while its calls go on (the marker, the copy of the graph, the colors seen), and what stays true of it. No condition. -/
import Derived.Test.YtalhldfcdfdoeaaWSound
import Derived.Test.YtalhldfcdfdoeaaRAll
import Derived.Test.YtalhldfcdfdoeaaSteps
namespace Go.Proofs.Ytalhldfcdfdoeaa
open Go.RowKit

/-- The blocks that an object's slices are read from. -/
def Ob.touches (o : Ob) (r : Nat) : Prop := (rowBlk o.rA = some r ∧ 0 < o.refs.length) ∨ (rowBlk o.eA = some r ∧ 0 < o.ents.length)
theorem ObOk.keptF {w w' : World} {o : Ob} {F : Nat → Prop} (h : ObOk w o) (hk : Kept F w w') (hF : ∀ r, o.touches r → ¬ F r) : ObOk w' o := by
  refine ⟨⟨rfl, fun hn => ?_⟩, h.rnil, ⟨rfl, fun hn => ?_⟩, h.iid, h.irefs, h.few⟩
  · obtain ⟨g, off, e, hg, hc⟩ := h.rsrc.2 hn
    exact ⟨g, off, e, Nat.lt_of_lt_of_le hg hk.size, fun j hj => (hk.cell (p := ⟨g, off + j, none⟩) hg (hF g (.inl ⟨by rw [e]; rfl, hn⟩))).trans (hc j hj)⟩
  · obtain ⟨b, off, e, hb, hc⟩ := h.esrc.at_ hn
    have hf := hF b (.inr ⟨by rw [e]; rfl, hn⟩)
    exact ⟨b, off, e, Nat.lt_of_lt_of_le hb hk.size, fun i p hp => ⟨(hk.cell (p := ⟨b, _, none⟩) hb hf).trans (hc i p hp).1, (hk.cell (p := ⟨b, _, none⟩) hb hf).trans (hc i p hp).2⟩⟩
theorem ObOk.touches_lt {w : World} {o : Ob} (h : ObOk w o) {r : Nat} (hr : o.touches r) : r < w.heap.size := by
  rcases hr with ⟨e, hn⟩ | ⟨e, hn⟩
  · obtain ⟨g, off, e', hg, _⟩ := h.rsrc.2 hn
    rw [e'] at e
    simp [rowBlk] at e
    omega
  · obtain ⟨b, off, e', hb, _⟩ := h.esrc.at_ hn
    rw [e'] at e
    simp [rowBlk] at e
    omega

/-- The law's own blocks: tags 0 the graph's box, 1 its objects, 2 the colors, 3 the roots. -/
structure BSt (w1 wr : World) (ow lw : Nat → Option Nat) (g B NB nc : Nat) (rA : Option Addr) (rc C on : Nat) (m : Mk) (os : List Ob) (rs cs : List Int) : Prop where
  mm : MMem wr ow g m
  own : ∀ k, Own ow k → w1.heap.size ≤ k
  lown : ∀ k, Own lw k → w1.heap.size ≤ k ∧ k < wr.heap.size ∧ ¬ Own ow k
  t0 : lw B = some 0
  t1 : lw NB = some 1
  t2 : lw C = some 2
  t3 : ∀ r, rowBlk rA = some r → lw r = some 3
  box : Blk wr B 25 #[.slice (some ⟨NB, 0, none⟩) on nc, .slice rA rs.length rc]
  objs : ∃ cur : Array Value, wr.heap[NB]? = some (.cells cur 39 (0, 0)) ∧ cur.toList.take (on * 5) = osCells os
  len : os.length = on
  ok : ∀ o, o ∈ os → ObOk wr o
  far : ∀ o, o ∈ os → ∀ r, o.touches r → ¬ Own ow r ∧ ¬ Own lw r
  roots : Row wr rA rs.length rc rs
  cols : Row wr (some ⟨C, 0, none⟩) on on cs
  kept : Kept (fun _ => False) w1 wr

section
variable {w1 wr w2 : World} {ow lw : Nat → Option Nat} {g B NB nc : Nat} {rA : Option Addr} {rc C on : Nat} {m : Mk} {os : List Ob} {rs cs : List Int}

theorem BSt.marked (h : BSt w1 wr ow lw g B NB nc rA rc C on m os rs cs) {m' : Mk} (hp : MPost wr ow g m' w2) : ∃ ow', BSt w1 w2 ow' lw g B NB nc rA rc C on m' os rs cs := by
  obtain ⟨ow', hm, hk, hs⟩ := hp
  have hl : ∀ k, Own lw k → ¬ Own ow k := fun k hk => (h.lown k hk).2.2
  have hnew : ∀ k, k < wr.heap.size → ¬ Own ow k → ¬ Own ow' k := fun k hlt hn ho => by
    rcases hs k ho with h' | h'
    · exact hn h'
    · omega
  obtain ⟨cur, hc, ht⟩ := h.objs
  have hNB := (h.lown NB ⟨_, h.t1⟩)
  refine ⟨ow', hm, fun k hk' => ?_, fun k hk' => ⟨(h.lown k hk').1, Nat.lt_of_lt_of_le (h.lown k hk').2.1 hk.size, hnew k (h.lown k hk').2.1 (hl k hk')⟩, h.t0, h.t1, h.t2, h.t3, h.box.kept hk (hl _ ⟨_, h.t0⟩), ⟨cur, (hk.block NB hNB.2.1 hNB.2.2).trans hc, ht⟩, h.len,
    fun o ho => (h.ok o ho).keptF hk (fun r hr => (h.far o ho r hr).1), fun o ho r hr => ⟨hnew r ((h.ok o ho).touches_lt hr) (h.far o ho r hr).1, (h.far o ho r hr).2⟩, h.roots.kept hk (fun r hr => hl r ⟨_, h.t3 r hr⟩), h.cols.kept hk (fun r hr => ?_), h.kept.trans hk (fun i hi hf => ?_)⟩
  · rcases hs k hk' with h' | h'
    · exact h.own k h'
    · exact Nat.le_trans h.kept.size h'
  · simp [rowBlk] at hr
    subst hr
    exact hl _ ⟨_, h.t2⟩
  · have := h.own i hf; omega

theorem BSt.later (h : BSt w1 wr ow lw g B NB nc rA rc C on m os rs cs) (hk : Kept (fun _ => False) wr w2) : BSt w1 w2 ow lw g B NB nc rA rc C on m os rs cs := by
  obtain ⟨cur, hc, ht⟩ := h.objs
  have hNB := (h.lown NB ⟨_, h.t1⟩)
  exact ⟨h.mm.kept hk (by simp), h.own, fun k hk' => ⟨(h.lown k hk').1, Nat.lt_of_lt_of_le (h.lown k hk').2.1 hk.size, (h.lown k hk').2.2⟩, h.t0, h.t1, h.t2, h.t3, h.box.kept hk (by simp), ⟨cur, (hk.block NB hNB.2.1 (by simp)).trans hc, ht⟩, h.len,
    fun o ho => (h.ok o ho).later hk, h.far, h.roots.kept hk (by simp), h.cols.kept hk (by simp), h.kept.trans hk (fun _ _ h => h)⟩

theorem BSt.objsAt (h : BSt w1 wr ow lw g B NB nc rA rc C on m os rs cs) : Objs wr (some ⟨NB, 0, none⟩) on os := by
  obtain ⟨cur, hc, ht⟩ := h.objs
  exact Objs.of_block hc h.len ht

/-- A store into the law's own blocks of one tag: the rest stands. -/
theorem BSt.rest (h : BSt w1 wr ow lw g B NB nc rA rc C on m os rs cs) {t : Nat} (hk : Kept (fun k => lw k = some t) wr w2) :
    MMem w2 ow g m ∧ (∀ o, o ∈ os → ObOk w2 o) ∧ Kept (fun _ => False) w1 w2 ∧ (t ≠ 0 → Blk w2 B 25 #[.slice (some ⟨NB, 0, none⟩) on nc, .slice rA rs.length rc]) ∧ (t ≠ 1 → ∃ cur : Array Value, w2.heap[NB]? = some (.cells cur 39 (0, 0)) ∧ cur.toList.take (on * 5) = osCells os) ∧
      (t ≠ 3 → Row w2 rA rs.length rc rs) ∧ (t ≠ 2 → Row w2 (some ⟨C, 0, none⟩) on on cs) ∧ (∀ k, Own lw k → w1.heap.size ≤ k ∧ k < w2.heap.size ∧ ¬ Own ow k) := by
  have hne : ∀ k s, lw k = some s → t ≠ s → ¬ lw k = some t := fun k s hs hn e => by
    rw [hs] at e
    injection e with e
    exact hn e.symm
  obtain ⟨cur, hc, ht⟩ := h.objs
  refine ⟨h.mm.kept hk (fun k ho hf => (h.lown k ⟨_, hf⟩).2.2 ho), fun o ho => (h.ok o ho).keptF hk (fun r hr hf => (h.far o ho r hr).2 ⟨_, hf⟩), h.kept.trans hk (fun i hi hf => by have := (h.lown i ⟨_, hf⟩).1; omega), fun hn => h.box.kept hk (hne _ _ h.t0 hn), fun hn => ⟨cur, (hk.block NB (h.lown NB ⟨_, h.t1⟩).2.1 (hne _ _ h.t1 hn)).trans hc, ht⟩,
    fun hn => h.roots.kept hk (fun r hr => hne _ _ (h.t3 r hr) hn), fun hn => h.cols.kept hk (fun r hr => ?_), fun k hk' => ⟨(h.lown k hk').1, Nat.lt_of_lt_of_le (h.lown k hk').2.1 hk.size, (h.lown k hk').2.2⟩⟩
  simp [rowBlk] at hr
  subst hr
  exact hne _ _ h.t2 hn

theorem BSt.colored (h : BSt w1 wr ow lw g B NB nc rA rc C on m os rs cs) {k : Nat} (hk : k < on) (x : Int) : BSt w1 (wr.setCell ⟨C, k, none⟩ (.int .i64 x)) ow lw g B NB nc rA rc C on m os rs (cs.set k x) := by
  have kk : Kept (fun k => lw k = some 2) wr (wr.setCell ⟨C, k, none⟩ (.int .i64 x)) := (Kept.refl _ wr).setCell (fun _ => h.t2) _
  obtain ⟨q1, q2, q3, q4, q5, q6, q7, q8⟩ := h.rest kk
  have hr := h.cols.set k hk x
  rw [Nat.zero_add] at hr
  exact ⟨q1, h.own, q8, h.t0, h.t1, h.t2, h.t3, q4 (by omega), q5 (by omega), h.len, q2, h.far, q6 (by omega), hr, q3⟩

theorem BSt.rooted (h : BSt w1 wr ow lw g B NB nc rA rc C on m os rs cs) {w3 : World} {rA' : Option Addr} {rc' : Nat} {x : Int} (hk : Kept (fun k => rowBlk rA = some k) wr w3) (hr : Row w3 rA' (rs.length + 1) rc' (rs ++ [x]))
    (hat : rowBlk rA' = rowBlk rA ∨ ∃ r, rowBlk rA' = some r ∧ wr.heap.size ≤ r) : ∃ lw', BSt w1 (w3.setCell ⟨B, 1, none⟩ (.slice rA' (rs.length + 1) rc')) ow lw' g B NB nc rA' rc' C on m os (rs ++ [x]) cs := by
  have hk3 : Kept (fun k => lw k = some 3) wr w3 := hk.mono (fun k _ hf => h.t3 k hf)
  obtain ⟨q1, q2, q3, q4, q5, q6, q7, q8⟩ := h.rest hk3
  have hB := h.lown B ⟨_, h.t0⟩
  have hrB : rowBlk rA' ≠ some B := by
    intro e
    rcases hat with h' | ⟨r, h', hr'⟩
    · rw [h'] at e
      have := h.t3 _ e
      rw [h.t0] at this
      injection this; omega
    · rw [h'] at e
      injection e with e
      omega
  have kset : Kept (fun k => k = B) w3 (w3.setCell ⟨B, 1, none⟩ (.slice rA' (rs.length + 1) rc')) := (Kept.refl (fun k => k = B) w3).setCell (fun _ => rfl) _
  have hne : ∀ k s, lw k = some s → s ≠ 0 → ¬ k = B := fun k s hs hn e => by
    rw [e, h.t0] at hs
    injection hs with hs
    exact hn hs.symm
  have hle : ∀ k t, lw k = some t → (fun k => if rowBlk rA' = some k then some 3 else lw k) k = some t := by
    intro k t ht
    simp only
    split
    · rename_i hk'
      rcases hat with h' | ⟨r, h', hr'⟩
      · rw [hk'] at h'
        rw [h.t3 k h'.symm] at ht
        exact ht
      · rw [hk'] at h'
        injection h' with h'
        have := (h.lown k ⟨_, ht⟩).2.1
        omega
    · exact ht
  have hown' : ∀ k, Own (fun k => if rowBlk rA' = some k then some 3 else lw k) k → Own lw k ∨ (wr.heap.size ≤ k ∧ rowBlk rA' = some k) := by
    rintro k ⟨t, ht⟩
    simp only at ht
    split at ht
    · rename_i hk'
      rcases hat with h' | ⟨r, h', hr'⟩
      · rw [hk'] at h'; exact .inl ⟨_, h.t3 k h'.symm⟩
      · rw [hk'] at h'
        injection h' with h'
        exact .inr ⟨by omega, hk'⟩
    · exact .inl ⟨t, ht⟩
  have hmlt := q1.lt
  obtain ⟨cur, hc, ht⟩ := q5 (by omega)
  refine ⟨fun k => if rowBlk rA' = some k then some 3 else lw k, q1.kept kset (fun k ho e => by subst e; exact hB.2.2 ho), h.own, fun k hk' => ?_, hle _ _ h.t0, hle _ _ h.t1, hle _ _ h.t2, fun r hr => by simp [hr], ?_, ⟨cur, (kset.block NB (q8 NB ⟨_, h.t1⟩).2.1 (hne _ _ h.t1 (by omega))).trans hc, ht⟩, h.len,
    fun o ho => (q2 o ho).keptF kset (fun r hr e => by subst e; exact (h.far o ho r hr).2 ⟨_, h.t0⟩), fun o ho r hr => ⟨(h.far o ho r hr).1, fun ho' => ?_⟩, ?_, (q7 (by omega)).kept kset (fun r hr e => ?_), q3.trans kset (fun i hi e => by subst e; omega)⟩
  · have hsz : (w3.setCell ⟨B, 1, none⟩ (.slice rA' (rs.length + 1) rc')).heap.size = w3.heap.size := by simp [World.setCell]
    rw [hsz]
    rcases hown' k hk' with h' | ⟨h', e⟩
    · exact q8 k h'
    · refine ⟨Nat.le_trans h.kept.size h', hr.blk_lt e, fun ho => ?_⟩
      have := h.mm.lt k ho
      omega
  · have := (q4 (by omega)).set_ 1 (.slice rA' (rs.length + 1) rc')
    simpa using this
  · rcases hown' r ho' with h' | ⟨h', _⟩
    · exact (h.far o ho r hr).2 h'
    · have := (h.ok o ho).touches_lt hr
      omega
  · have := hr.kept kset (fun r hr e => hrB (by rw [hr, e]))
    simpa using this
  · simp [rowBlk] at hr
    subst hr
    exact hne _ _ h.t2 (by omega) e

theorem osCells_set {os : List Ob} {i : Nat} {o : Ob} (ho : os[i]? = some o) (A : Option Addr) (c : Nat) (t : Int) : osCells (os.set i (obAdd o A c t)) = (osCells os).set (i * 5 + 3) (.slice A (o.refs.length + 1) c) := by
  induction os generalizing i with
  | nil => simp at ho
  | cons x os ih =>
    cases i with
    | zero =>
      simp at ho
      subst ho
      simp [osCells, obCells, obAdd]
    | succ i =>
      simp at ho
      have := ih ho
      unfold osCells at this ⊢
      simp only [List.set_cons_succ, List.flatMap_cons, this]
      have e : (obCells x).length = 5 := rfl
      rw [List.set_append_right _ _ (by rw [e]; omega), e]
      congr 2
      omega

theorem BSt.refd (h : BSt w1 wr ow lw g B NB nc rA rc C on m os rs cs) {i : Nat} {o : Ob} (ho : os[i]? = some o) {w3 : World} {A : Option Addr} {c : Nat} {t : Int} (ht : I64 t) (hf : o.refs.length < 200) (hk : Kept (fun _ => False) wr w3) (hr : Row w3 A (o.refs.length + 1) c (o.refs ++ [t]))
    (hA : ∀ r, rowBlk A = some r → wr.heap.size ≤ r) : BSt w1 (w3.setCell ⟨NB, i * 5 + 3, none⟩ (.slice A (o.refs.length + 1) c)) ow lw g B NB nc rA rc C on m (os.set i (obAdd o A c t)) rs cs := by
  have h3 := h.later hk
  have kset : Kept (fun k => lw k = some 1) w3 (w3.setCell ⟨NB, i * 5 + 3, none⟩ (.slice A (o.refs.length + 1) c)) := (Kept.refl _ w3).setCell (fun _ => h.t1) _
  obtain ⟨q1, q2, q3, q4, q5, q6, q7, q8⟩ := h3.rest kset
  have hmem := List.mem_of_getElem? ho
  have hown : ∀ r, wr.heap.size ≤ r → ¬ Own ow r ∧ ¬ Own lw r := fun r hr' => ⟨fun hh => by have := h.mm.lt r hh; omega, fun hh => by have := (h.lown r hh).2.1; omega⟩
  obtain ⟨cur, hc, htk⟩ := h3.objs
  have hil : i < os.length := (List.getElem?_eq_some_iff.1 ho).1
  have hlen := h.len
  have hsz : i * 5 + 3 < on * 5 := by omega
  have hcs : on * 5 ≤ cur.size := by
    have := congrArg List.length htk
    rw [List.length_take, osCells_length, hlen] at this
    simp at this
    omega
  have hcell : (o.refs ++ [t]).length = o.refs.length + 1 := by simp
  have hrow2 : Row (w3.setCell ⟨NB, i * 5 + 3, none⟩ (.slice A (o.refs.length + 1) c)) A (o.refs.length + 1) c (o.refs ++ [t]) := hr.kept kset (fun r hr' hl => (hown r (hA r hr')).2 ⟨_, hl⟩)
  refine ⟨q1, h.own, q8, h.t0, h.t1, h.t2, h.t3, q4 (by omega), ⟨cur.setIfInBounds (i * 5 + 3) (.slice A (o.refs.length + 1) c), heap_setCell_same w3 NB (i * 5 + 3) cur 39 _ hc, ?_⟩, by rw [List.length_set]; exact hlen, fun o' ho' => ?_, fun o' ho' r hr' => ?_, q6 (by omega), q7 (by omega), q3⟩
  · rw [osCells_set ho, ← htk, Array.toList_setIfInBounds, List.take_set]
  · rcases List.mem_or_eq_of_mem_set ho' with h' | rfl
    · exact q2 o' h'
    · have hk' := q2 o hmem
      refine ⟨?_, ?_, hk'.esrc, hk'.iid, ?_, ?_, hk'.few.2⟩
      · show Src _ A (o.refs ++ [t]).length (o.refs ++ [t])
        rw [hcell]
        exact hrow2.src
      · show A = none → (o.refs ++ [t]).length = 0 ∧ c = 0
        intro e
        have := hrow2.none_len e
        omega
      · show ∀ r, r ∈ (o.refs ++ [t]) ++ W.flatKV o.ents → I64 r
        intro r hr'
        rw [List.append_assoc, List.mem_append, List.mem_append] at hr'
        rcases hr' with h' | h' | h'
        · exact hk'.irefs r (List.mem_append_left _ h')
        · simp at h'; subst h'; exact ht
        · exact hk'.irefs r (List.mem_append_right _ h')
      · show (o.refs ++ [t]).length ≤ 200
        rw [hcell]; omega
  · rcases List.mem_or_eq_of_mem_set ho' with h' | rfl
    · exact h.far o' h' r hr'
    · rcases hr' with ⟨e, _⟩ | ⟨e, hn⟩
      · exact hown r (hA r e)
      · exact h.far o hmem r (.inr ⟨e, hn⟩)
end
end Go.Proofs.Ytalhldfcdfdoeaa
