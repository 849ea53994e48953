/- What is proved here: the memory form of a marker, and the contracts of 'reach' and 'Color' over the plain marker. Condition: the marker lies in memory and is well formed. -/
import Derived.Test.YtalhldfcdfdoeaaReach
import Derived.Test.YtalhldfcdfdoeaaPlain
namespace Go.Proofs.Ytalhldfcdfdoeaa
open Go.RowKit

/-- An object of a marker: its block nb, and the rows of its two slices; tags tell the blocks apart. -/
def NodeAt (w : World) (ow : Nat → Option Nat) (i nb : Nat) (x : Nd) : Prop :=
  ∃ A1 c1 A2 c2, Blk w nb 59 #[.slice A1 x.refs.length c1, .slice A2 x.ents.length c2, .int .i64 (x.col : Int)] ∧ Row w A1 x.refs.length c1 x.refs ∧ Row w A2 x.ents.length c2 x.ents ∧
    ow nb = some (3 + 3 * i) ∧ (∀ r, rowBlk A1 = some r → ow r = some (4 + 3 * i)) ∧ ∀ r, rowBlk A2 = some r → ow r = some (5 + 3 * i)

theorem NodeAt.kept {w w' : World} {ow ow' : Nat → Option Nat} {i nb : Nat} {x : Nd} {F : Nat → Prop} (h : NodeAt w ow i nb x) (hk : Kept F w w') (hF : ∀ k t, F k → ow k = some t → t ≠ 3 + 3 * i ∧ t ≠ 4 + 3 * i ∧ t ≠ 5 + 3 * i) (hle : ∀ k t, ow k = some t → ow' k = some t) : NodeAt w' ow' i nb x := by
  obtain ⟨A1, c1, A2, c2, hb, h1, h2, o0, o1, o2⟩ := h
  exact ⟨A1, c1, A2, c2, hb.kept hk (fun hf => (hF _ _ hf o0).1 rfl), h1.kept hk (fun r hr hf => (hF _ _ hf (o1 r hr)).2.1 rfl), h2.kept hk (fun r hr hf => (hF _ _ hf (o2 r hr)).2.2 rfl), hle _ _ o0, fun r hr => hle _ _ (o1 r hr), fun r hr => hle _ _ (o2 r hr)⟩

/-- The marker m lies at block g, its objects at the blocks nbs; its blocks bear tags. -/
def MMemN (w : World) (ow : Nat → Option Nat) (g : Nat) (nbs : List Nat) (m : Mk) : Prop :=
  ∃ mb qA qc, nbs.length = m.nodes.length ∧ ow g = some 0 ∧ ow mb = some 1 ∧ (∀ r, rowBlk qA = some r → ow r = some 2) ∧ Blk w g 55 #[.map (some mb), .slice qA m.queue.length qc] ∧ Row w qA m.queue.length qc m.queue ∧
    MapM w mb ((m.nodes.map Nd.id).zip nbs) ∧ (∀ i x nb, m.nodes[i]? = some x → nbs[i]? = some nb → NodeAt w ow i nb x) ∧ ∀ k t, ow k = some t → k < w.heap.size

def MMem (w : World) (ow : Nat → Option Nat) (g : Nat) (m : Mk) : Prop := ∃ nbs, MMemN w ow g nbs m

def Own (ow : Nat → Option Nat) : Nat → Prop := fun k => ∃ t, ow k = some t

def MPost (w : World) (ow : Nat → Option Nat) (g : Nat) (m : Mk) (w' : World) : Prop :=
  ∃ ow', MMem w' ow' g m ∧ Kept (Own ow) w w' ∧ ∀ k, Own ow' k → Own ow k ∨ w.heap.size ≤ k

def MPostN (w : World) (ow : Nat → Option Nat) (g : Nat) (nbs : List Nat) (m : Mk) (w' : World) : Prop :=
  ∃ ow', MMemN w' ow' g nbs m ∧ Kept (Own ow) w w' ∧ ∀ k, Own ow' k → Own ow k ∨ w.heap.size ≤ k
theorem MPostN.out {w w' : World} {ow : Nat → Option Nat} {g : Nat} {nbs : List Nat} {m : Mk} (h : MPostN w ow g nbs m w') : MPost w ow g m w' := by
  obtain ⟨ow', a, b, c⟩ := h
  exact ⟨ow', ⟨nbs, a⟩, b, c⟩
theorem MMemN.same {w : World} {ow : Nat → Option Nat} {g : Nat} {nbs : List Nat} {m : Mk} (h : MMemN w ow g nbs m) : MPostN w ow g nbs m w := ⟨ow, h, Kept.refl _ _, fun _ h => .inl h⟩
theorem MMem.same {w : World} {ow : Nat → Option Nat} {g : Nat} {m : Mk} (h : MMem w ow g m) : MPost w ow g m w := ⟨ow, h, Kept.refl _ _, fun _ h => .inl h⟩
theorem MMem.lt {w : World} {ow : Nat → Option Nat} {g : Nat} {m : Mk} (h : MMem w ow g m) : ∀ k, Own ow k → k < w.heap.size := by
  obtain ⟨_, _, _, _, _, _, _, _, _, _, _, _, h⟩ := h
  rintro k ⟨t, ht⟩
  exact h k t ht
theorem MMem.kept {w w' : World} {ow : Nat → Option Nat} {g : Nat} {m : Mk} {F : Nat → Prop} (h : MMem w ow g m) (hk : Kept F w w') (hF : ∀ k, Own ow k → ¬ F k) : MMem w' ow g m := by
  obtain ⟨nbs, mb, qA, qc, hl, o0, o1, o2, hb, hq, hm, hn, hlt⟩ := h
  exact ⟨nbs, mb, qA, qc, hl, o0, o1, o2, hb.kept hk (hF _ ⟨_, o0⟩), hq.kept hk (fun r hr => hF _ ⟨_, o2 r hr⟩), hm.kept hk (hF _ ⟨_, o1⟩), fun i x nb hx hnb => (hn i x nb hx hnb).kept hk (fun k t hf ht => absurd hf (hF k ⟨t, ht⟩)) (fun _ _ h => h), fun k t ht => Nat.lt_of_lt_of_le (hlt k t ht) hk.size⟩
theorem MPost.trans {w w1 w2 : World} {ow : Nat → Option Nat} {g : Nat} {m : Mk} {P : World → Prop} (h : ∃ ow1, Kept (Own ow) w w1 ∧ (∀ k, Own ow1 k → Own ow k ∨ w.heap.size ≤ k) ∧ MPost w1 ow1 g m w2) (_ : P w → True) : MPost w ow g m w2 := by
  obtain ⟨ow1, k1, s1, ow2, m2, k2, s2⟩ := h
  refine ⟨ow2, m2, k1.trans k2 (fun i hi hf => ?_), fun k hk => ?_⟩
  · rcases s1 i hf with h | h
    · exact h
    · omega
  · rcases s2 k hk with h | h
    · exact s1 k h
    · exact .inr (Nat.le_trans k1.size h)

/-- Every number in a marker is an int. -/
structure Wf (m : Mk) : Prop where
  ids : ∀ x, x ∈ m.nodes → I64 x.id
  refs : ∀ x, x ∈ m.nodes → ∀ r, r ∈ x.refs ++ x.ents → I64 r
  queue : ∀ r, r ∈ m.queue → I64 r
  few : m.nodes.length ≤ 1000

theorem zip_apart {l : List Nd} (ha : l.Pairwise fun x y => x.id < y.id) (nbs : List Nat) : ((l.map Nd.id).zip nbs).Pairwise fun p q => p.1 ≠ q.1 := by
  induction l generalizing nbs with
  | nil => simp
  | cons x l ih =>
    cases nbs with
    | nil => simp
    | cons b nbs =>
      obtain ⟨h1, h2⟩ := List.pairwise_cons.1 ha
      simp only [List.map_cons, List.zip_cons_cons]
      refine List.pairwise_cons.2 ⟨?_, ih h2 nbs⟩
      intro p hp
      have := (List.of_mem_zip (show (p.1, p.2) ∈ _ from hp)).1
      obtain ⟨y, hy, e⟩ := List.mem_map.1 this
      have := h1 y hy
      simp only
      omega
theorem zip_mem {l : List Nd} {nbs : List Nat} {i : Nat} {x : Nd} {b : Nat} (hx : l[i]? = some x) (hb : nbs[i]? = some b) : (x.id, b) ∈ (l.map Nd.id).zip nbs := by
  apply List.mem_of_getElem? (i := i)
  rw [List.getElem?_zip_eq_some]
  simp [hx, hb]
theorem find_index {l : List Nd} {id : Int} {c : Nat} (h : Mk.colOf l id = some c) : ∃ (i : Nat) (x : Nd), l[i]? = some x ∧ x.id = id ∧ x.col = c := by
  unfold Mk.colOf at h
  rw [Option.map_eq_some_iff] at h
  obtain ⟨x, hx, hc⟩ := h
  have h1 := List.mem_of_find?_eq_some hx
  have h2 := List.find?_some hx
  obtain ⟨i, hi⟩ := List.getElem?_of_mem h1
  exact ⟨i, x, hi, by simpa using h2, hc⟩
theorem find_none {l : List Nd} {id : Int} (h : Mk.colOf l id = none) : ∀ x, x ∈ l → x.id ≠ id := by
  unfold Mk.colOf at h
  rw [Option.map_eq_none_iff, List.find?_eq_none] at h
  intro x hx
  simpa using h x hx
theorem zip_none {l : List Nd} {nbs : List Nat} {id : Int} (h : Mk.colOf l id = none) : ∀ p, p ∈ (l.map Nd.id).zip nbs → p.1 ≠ id := by
  intro p hp
  have := (List.of_mem_zip (show (p.1, p.2) ∈ _ from hp)).1
  obtain ⟨y, hy, e⟩ := List.mem_map.1 this
  rw [← e]
  exact find_none h y hy
theorem asc_index {l : List Nd} (ha : l.Pairwise fun x y => x.id < y.id) {i j : Nat} {x y : Nd} (hx : l[i]? = some x) (hy : l[j]? = some y) (e : x.id = y.id) : i = j := by
  rcases Nat.lt_trichotomy i j with h | h | h
  · obtain ⟨hi, rfl⟩ := List.getElem?_eq_some_iff.1 hx
    obtain ⟨hj, rfl⟩ := List.getElem?_eq_some_iff.1 hy
    have := List.pairwise_iff_getElem.1 ha i j hi hj h
    omega
  · exact h
  · obtain ⟨hi, rfl⟩ := List.getElem?_eq_some_iff.1 hx
    obtain ⟨hj, rfl⟩ := List.getElem?_eq_some_iff.1 hy
    have := List.pairwise_iff_getElem.1 ha j i hj hi h
    omega
theorem setCol_get (l : List Nd) (id : Int) (c i : Nat) : (Mk.setCol l id c)[i]? = (l[i]?).map fun x => if x.id = id then { x with col := c } else x := by
  unfold Mk.setCol
  rw [List.getElem?_map]

section
variable {w : World} {ow : Nat → Option Nat} {g : Nat} {m : Mk}

theorem m_color (hG : m.Good) (h : MMem w ow g m) {id : Int} (hw : I64 id) :
    Calls Try.prog 14 #[.pointer (some ⟨g, 0, none⟩), .int .i64 id] w fun e w' => e = .returned (.int .i64 (match Mk.colOf m.nodes id with | some c => (c : Int) | none => -1)) ∧ w = w' := by
  obtain ⟨nbs, mb, qA, qc, hl, o0, o1, o2, hb, hq, hm, hn, hlt⟩ := h
  cases hc : Mk.colOf m.nodes id with
  | none => exact W.color_none g mb id w (hb.cell 0) (hm.look_none (zip_none hc) hw)
  | some c =>
    obtain ⟨i, x, hx, e1, e2⟩ := find_index hc
    have hi : i < nbs.length := by rw [hl]; exact (List.getElem?_eq_some_iff.1 hx).1
    have hnb : nbs[i]? = some nbs[i] := List.getElem?_eq_getElem hi
    obtain ⟨A1, c1, A2, c2, hbn, _⟩ := hn i x _ hx hnb
    have hmem := zip_mem hx hnb
    rw [e1] at hmem
    have hcell : w.cell? ⟨nbs[i], 2, none⟩ = some (.int .i64 (x.col : Int)) := hbn.cell 2
    rw [e2] at hcell
    exact W.color_some g mb nbs[i] c id w (hb.cell 0) (hm.look_some (zip_apart hG.asc nbs) hmem hw).1 hcell

theorem m_reachN {nbs : List Nat} (hG : m.nodes.Pairwise fun x y => x.id < y.id) (h : MMemN w ow g nbs m) {id : Int} (hw : I64 id) (hqb : m.queue.length ≤ 1000) :
    Calls Try.prog 26 #[.pointer (some ⟨g, 0, none⟩), .int .i64 id] w fun e w' => e = .returned (.tuple #[]) ∧ MPostN w ow g nbs (m.reach id) w' := by
  have hsame := h.same
  obtain ⟨mb, qA, qc, hl, o0, o1, o2, hb, hq, hm, hn, hlt⟩ := h
  unfold Mk.reach
  cases hc : Mk.colOf m.nodes id with
  | none =>
    rw [if_neg (by simp)]
    refine (W.reach_none g mb id w (hb.cell 0) (hm.look_none (zip_none hc) hw)).mono ?_
    rintro e w' ⟨rfl, rfl⟩
    exact ⟨rfl, hsame⟩
  | some c =>
    obtain ⟨i, x, hx, e1, e2⟩ := find_index hc
    have hi : i < nbs.length := by rw [hl]; exact (List.getElem?_eq_some_iff.1 hx).1
    have hnb : nbs[i]? = some nbs[i] := List.getElem?_eq_getElem hi
    have hnode := hn i x _ hx hnb
    obtain ⟨A1, c1, A2, c2, hbn, hr1, hr2, p0, p1, p2⟩ := hnode
    have hmem := zip_mem hx hnb
    rw [e1] at hmem
    have hcell : w.cell? ⟨nbs[i], 2, none⟩ = some (.int .i64 (x.col : Int)) := hbn.cell 2
    rw [e2] at hcell
    have hlook := (hm.look_some (zip_apart hG nbs) hmem hw).1
    by_cases h0 : c = 0
    · subst h0
      rw [if_pos rfl]
      generalize nbs[i] = nb at *
      have hgn : g ≠ nb := fun e => by rw [e, p0] at o0; injection o0; omega
      have hqn : rowBlk qA ≠ some nb := fun e => by have := o2 _ e; rw [p0] at this; injection this; omega
      have hqg : rowBlk qA ≠ some g := fun e => by have := o2 _ e; rw [o0] at this; injection this; omega
      refine (W.reach_white g mb nb qc qA m.queue id w (hb.cell 0) (hb.cell 1) (hb.frozen 1) (hlt _ _ o0) hlook hcell (hbn.frozen 2) hq hgn hqn hqg (by omega)).mono ?_
      rintro e w' ⟨rfl, w1, qA', c', k1, rfl, row1, hat, hbl⟩
      have hk : Kept (Own ow) w (w1.setCell ⟨g, 1, none⟩ (.slice qA' (m.queue.length + 1) c')) :=
        (k1.mono (G := Own ow) (fun k _ hf => by rcases hf with rfl | hf; exact ⟨_, p0⟩; exact ⟨_, o2 k hf⟩)).setCell (fun _ => ⟨_, o0⟩) _
      have hgl' : g < w1.heap.size := Nat.lt_of_lt_of_le (hlt _ _ o0) k1.size
      have hlt' : ∀ r, rowBlk qA' = some r → r < w1.heap.size := fun r hr => row1.blk_lt hr
      have hle : ∀ k t, ow k = some t → (fun k => if rowBlk qA' = some k then some 2 else ow k) k = some t := by
        intro k t ht
        simp only
        split
        · rename_i hk'
          rcases hat with h | ⟨r, h, hr⟩
          · rw [hk'] at h
            rw [o2 k h.symm] at ht
            exact ht
          · rw [hk'] at h
            injection h with h
            have := hlt k t ht
            omega
        · exact ht
      have hqg' : rowBlk qA' ≠ some g := by
        rcases hat with h | ⟨r, h, hr⟩
        · rw [h]; exact hqg
        · rw [h]; intro e; injection e with e; have := hlt _ _ o0; omega
      have kset : ∀ v, Kept (fun k => k = g) w1 (w1.setCell ⟨g, 1, none⟩ v) := fun v => (Kept.refl (fun k => k = g) w1).setCell (fun _ => rfl) _
      refine ⟨rfl, fun k => if rowBlk qA' = some k then some 2 else ow k, ⟨mb, qA', c', by simpa [Mk.setCol] using hl, hle _ _ o0, hle _ _ o1, fun r hr => by simp [hr], ?_, ?_, ?_, ?_, ?_⟩, hk, ?_⟩
      · have hbg : Blk w1 g 55 #[.map (some mb), .slice qA m.queue.length qc] := hb.kept k1 (by rintro (e | e); exact hgn e; exact hqg e)
        have := hbg.set_ 1 (.slice qA' (m.queue.length + 1) c')
        simpa using this
      · have := row1.kept (kset (.slice qA' (m.queue.length + 1) c')) (fun r hr e => hqg' (by rw [hr, e]))
        simpa using this
      · rw [Mk.setCol_ids]
        refine (hm.kept k1 ?_).kept (kset _) ?_
        · rintro (e | e)
          · rw [e, p0] at o1; injection o1; omega
          · have := o2 _ e; rw [o1] at this; injection this; omega
        · intro e; rw [e, o0] at o1; injection o1; omega
      · intro j y nb' hy hnb'
        simp only at hy
        rw [setCol_get] at hy
        rw [Option.map_eq_some_iff] at hy
        obtain ⟨y0, hy0, rfl⟩ := hy
        by_cases hj : y0.id = id
        · have hij : i = j := asc_index hG hx hy0 (by rw [e1, hj])
          subst hij
          rw [hx] at hy0
          injection hy0 with hy0
          subst hy0
          rw [hnb] at hnb'
          injection hnb' with hnb'
          subst hnb'
          rw [if_pos hj]
          have hb1 := hbl _ _ hbn
          simp at hb1
          refine ⟨A1, c1, A2, c2, ?_, ?_, ?_, hle _ _ p0, fun r hr => hle _ _ (p1 r hr), fun r hr => hle _ _ (p2 r hr)⟩
          · exact hb1.kept (kset _) (fun e => hgn e.symm)
          · refine (hr1.kept k1 ?_).kept (kset _) ?_
            · rintro r hr (e | e)
              · have := p1 r hr; rw [e, p0] at this; injection this; omega
              · have := p1 r hr; rw [o2 _ e] at this; injection this; omega
            · intro r hr e; have := p1 r hr; rw [e, o0] at this; injection this; omega
          · refine (hr2.kept k1 ?_).kept (kset _) ?_
            · rintro r hr (e | e)
              · have := p2 r hr; rw [e, p0] at this; injection this; omega
              · have := p2 r hr; rw [o2 _ e] at this; injection this; omega
            · intro r hr e; have := p2 r hr; rw [e, o0] at this; injection this; omega
        · rw [if_neg hj]
          have hij : i ≠ j := by
            rintro rfl
            rw [hx] at hy0
            injection hy0 with hy0
            subst hy0
            exact hj e1
          refine ((hn j y0 nb' hy0 hnb').kept k1 (ow' := ow) ?_ (fun _ _ h => h)).kept (kset _) ?_ hle
          · rintro k t (e | e) ht
            · rw [e, p0] at ht; injection ht with ht; omega
            · rw [o2 _ e] at ht; injection ht with ht; omega
          · rintro k t e ht
            rw [e, o0] at ht; injection ht with ht; omega
      · intro k t ht
        simp only at ht
        have hsz : (w1.setCell ⟨g, 1, none⟩ (.slice qA' (m.queue.length + 1) c')).heap.size = w1.heap.size := by simp [World.setCell]
        rw [hsz]
        split at ht
        · rename_i hk'
          exact hlt' k hk'
        · exact Nat.lt_of_lt_of_le (hlt k t ht) k1.size
      · rintro k ⟨t, ht⟩
        simp only at ht
        split at ht
        · rename_i hk'
          rcases hat with h | ⟨r, h, hr⟩
          · rw [hk'] at h
            exact .inl ⟨_, o2 k h.symm⟩
          · rw [hk'] at h
            injection h with h
            exact .inr (by omega)
        · exact .inl ⟨t, ht⟩
    · rw [if_neg (by simp; exact h0)]
      refine (W.reach_other g mb nbs[i] c id w (hb.cell 0) hlook hcell (by simp; omega)).mono ?_
      rintro e w' ⟨rfl, rfl⟩
      exact ⟨rfl, hsame⟩
theorem m_reach (hG : m.Good) (h : MMem w ow g m) {id : Int} (hw : I64 id) (hqb : m.queue.length ≤ 1000) :
    Calls Try.prog 26 #[.pointer (some ⟨g, 0, none⟩), .int .i64 id] w fun e w' => e = .returned (.tuple #[]) ∧ MPost w ow g (m.reach id) w' := by
  obtain ⟨nbs, h⟩ := h
  exact (m_reachN hG.asc h hw hqb).mono fun e w' h => ⟨h.1, h.2.out⟩
end
end Go.Proofs.Ytalhldfcdfdoeaa
