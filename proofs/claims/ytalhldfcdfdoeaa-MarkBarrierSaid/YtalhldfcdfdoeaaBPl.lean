/- What is proved here: what is true of the plain marker, the copy of the graph and the colors while the calls of MarkBarrier go on; and how they begin. No condition. -/
import Derived.Test.YtalhldfcdfdoeaaBNow
namespace Go.Proofs.Ytalhldfcdfdoeaa
open Go.RowKit

structure BP (rn : Nat) (os : List Ob) (k : Nat) (m : Mk) (os' : List Ob) (rs' cs : List Int) : Prop where
  good : m.Good
  sound : m.Sound
  same : Mk.Same m.nodes (mk0 os').nodes
  ck : chk 0 os' = true
  refs : ∀ o, o ∈ os' → o.refs.length ≤ 40 + k
  rl : rs'.length ≤ rn + k
  roots : ∀ r, r ∈ rs' → Mk.colOf m.nodes r ≠ some 0
  ids : os'.map Ob.id = os.map Ob.id
  cl : ∀ (i : Nat) (o : Ob) (x : Int), os[i]? = some o → cs[i]? = some x → ∃ c : Nat, Mk.colOf m.nodes o.id = some c ∧ x ≤ (c : Int)

section
variable {rn k : Nat} {os os' : List Ob} {m : Mk} {rs' cs : List Int}
theorem BP.up (h : BP rn os k m os' rs' cs) : BP rn os (k + 1) m os' rs' cs :=
  ⟨h.good, h.sound, h.same, h.ck, fun o ho => by have := h.refs o ho; omega, by have := h.rl; omega, h.roots, h.ids, h.cl⟩
theorem BP.steps (h : BP rn os k m os' rs' cs) (n : Nat) : BP rn os k (m.steps n) os' rs' cs :=
  ⟨h.good.steps n, h.sound.steps n, (Mk.same_steps m n).trans h.same, h.ck, h.refs, h.rl, fun r hr => Mk.notWhite_steps n (h.roots r hr), h.ids, fun i o x ho hx => by
    obtain ⟨c, h1, h2⟩ := h.cl i o x ho hx
    obtain ⟨d, h3, h4⟩ := Mk.col_steps h.good n o.id c h1
    exact ⟨d, h3, by omega⟩⟩
theorem BP.root (h : BP rn os k m os' rs' cs) (x : Int) : BP rn os (k + 1) (m.reach x) os' (rs' ++ [x]) cs :=
  ⟨h.good.reach x, h.sound.reach x, (Mk.same_reach m x).trans h.same, h.ck, fun o ho => by have := h.refs o ho; omega, by have := h.rl; simp; omega, fun r hr => by
    rcases List.mem_append.1 hr with hr | hr
    · exact Mk.notWhite_reach (h.roots r hr)
    · simp at hr
      subst hr
      exact Mk.reached (l := [r]) (m := m) (by simp), h.ids, fun i o x' ho hx => by
    obtain ⟨c, h1, h2⟩ := h.cl i o x' ho hx
    obtain ⟨d, h3, h4, _⟩ := Mk.col_reach m x o.id c h1
    exact ⟨d, h3, by omega⟩⟩
theorem BP.asc (h : BP rn os k m os' rs' cs) : os'.Pairwise fun a b => a.id < b.id := (chk_asc 0 os' h.ck).2
theorem BP.write (h : BP rn os k m os' rs' cs) {i : Nat} {o : Ob} (ho : os'[i]? = some o) (A : Option Addr) (c : Nat) (t : Int) : BP rn os (k + 1) (m.write o.id t) (os'.set i (obAdd o A c t)) rs' cs := by
  refine ⟨h.good.write _ _, h.sound.write _ _, (Mk.same_write m o.id t).trans (same_add h.same h.asc ho A c t), by rw [chk_set ho]; exact h.ck, fun o' ho' => ?_, by have := h.rl; omega, fun r hr => Mk.notWhite_write (h.roots r hr), ?_, fun i o' x ho' hx => ?_⟩
  · rcases List.mem_or_eq_of_mem_set ho' with h' | rfl
    · have := h.refs o' h'; omega
    · have := h.refs o (List.mem_of_getElem? ho)
      show (o.refs ++ [t]).length ≤ _
      simp
      omega
  · rw [← h.ids]
    apply List.ext_getElem?
    intro j
    rw [List.getElem?_map, List.getElem?_map, List.getElem?_set]
    split
    · rename_i e
      subst e
      split
      · rw [ho]; rfl
      · rename_i hn
        exact absurd (List.getElem?_eq_some_iff.1 ho).1 hn
    · rfl
  · obtain ⟨c', h1, h2⟩ := h.cl i o' x ho' hx
    obtain ⟨d, h3, h4, _⟩ := Mk.col_write m o.id t o'.id c' h1
    exact ⟨d, h3, by omega⟩
theorem BP.col (h : BP rn os k m os' rs' cs) {j : Nat} {o : Ob} (ho : os[j]? = some o) {c : Nat} (hc : Mk.colOf m.nodes o.id = some c) : BP rn os k m os' rs' (cs.set j (c : Int)) := by
  refine ⟨h.good, h.sound, h.same, h.ck, h.refs, h.rl, h.roots, h.ids, fun i o' x ho' hx => ?_⟩
  rw [List.getElem?_set] at hx
  split at hx
  · rename_i e
    subst e
    split at hx
    · injection hx with hx
      subst hx
      rw [ho] at ho'
      injection ho' with ho'
      subst ho'
      exact ⟨c, hc, by omega⟩
    · cases hx
  · exact h.cl i o' x ho' hx
theorem BP.len (h : BP rn os k m os' rs' cs) : m.nodes.length = os'.length := by
  have := h.same.length
  simpa [mk0] using this
/-- Every object of the graph has a color. -/
theorem BP.hasCol (h : BP rn os k m os' rs' cs) {o : Ob} (ho : o ∈ os) : ∃ c, Mk.colOf m.nodes o.id = some c := by
  have hm : o.id ∈ os'.map Ob.id := by rw [h.ids]; exact List.mem_map_of_mem ho
  obtain ⟨o', ho', e⟩ := List.mem_map.1 hm
  have h0 : (Mk.colOf (mk0 os').nodes o.id).isSome := by
    cases hc : Mk.colOf (mk0 os').nodes o.id with
    | none =>
      have := find_none hc (ndOf o') (List.mem_map_of_mem ho')
      exact absurd e this
    | some c => rfl
  rw [← h.same.isSome] at h0
  exact Option.isSome_iff_exists.1 h0
theorem BP.few {w : World} (h : BP rn os k m os' rs' cs) (hok : ∀ o, o ∈ os' → ObOk w o) (hn : os'.length ≤ 100) : Few m := (mk0_few hok hn).same h.same
theorem BP.found (h : BP rn os k m os' rs' cs) {id : Int} (hc : Mk.colOf m.nodes id ≠ none) : ∃ (i : Nat) (o : Ob), os'[i]? = some o ∧ o.id = id := by
  have hs : (Mk.colOf (mk0 os').nodes id).isSome := by
    rw [← h.same.isSome]
    cases hh : Mk.colOf m.nodes id with
    | none => exact absurd hh hc
    | some c => rfl
  obtain ⟨c, hc'⟩ := Option.isSome_iff_exists.1 hs
  obtain ⟨i, x, hx, e, _⟩ := find_index hc'
  unfold mk0 at hx
  simp only [List.getElem?_map, Option.map_eq_some_iff] at hx
  obtain ⟨o, ho, rfl⟩ := hx
  exact ⟨i, o, ho, e⟩
end

def BRel (w1 wr : World) (g B NB C on rn : Nat) (os : List Ob) (k : Nat) : Prop :=
  ∃ ow lw nc rA rc m os' rs' cs, BSt w1 wr ow lw g B NB nc rA rc C on m os' rs' cs ∧ BP rn os k m os' rs' cs
theorem BRel.up {w1 wr : World} {g B NB C on rn : Nat} {os : List Ob} {k : Nat} (h : BRel w1 wr g B NB C on rn os k) : BRel w1 wr g B NB C on rn os (k + 1) := by
  obtain ⟨ow, lw, nc, rA, rc, m, os', rs', cs, h1, h2⟩ := h
  exact ⟨ow, lw, nc, rA, rc, m, os', rs', cs, h1, h2.up⟩
theorem BRel.later {w1 wr w2 : World} {g B NB C on rn : Nat} {os : List Ob} {k : Nat} (h : BRel w1 wr g B NB C on rn os k) (hk : Kept (fun _ => False) wr w2) : BRel w1 w2 g B NB C on rn os k := by
  obtain ⟨ow, lw, nc, rA, rc, m, os', rs', cs, h1, h2⟩ := h
  exact ⟨ow, lw, nc, rA, rc, m, os', rs', cs, h1.later hk, h2⟩

/-- How it begins. -/
theorem BRel.start {w1 w2 wc : World} {ow : Nat → Option Nat} {g on rn : Nat} {os : List Ob} {rs : List Int} {v : Value} (hM : MMem w2 ow g (mkNew os rs)) (ho : ∀ k, Own ow k → w1.heap.size ≤ k) (k2 : Kept (fun _ => False) w1 w2) (hok : ∀ o, o ∈ os → ObOk w1 o) (hf : ∀ o, o ∈ os → o.refs.length ≤ 40) (hck : chk 0 os = true)
    (hl : os.length = on) (hn : on ≤ 1000) (hrl : rs.length ≤ rn) (hN : Now0 w2 wc v on os rs) : ∃ B NB, v = .pointer (some ⟨B, 0, none⟩) ∧ BRel w1 (wc.alloc (.cells (madeCells #[.int .i64 0] on) 3)) g B NB wc.heap.size on rn os 0 := by
  obtain ⟨B, NB, nc, rA, rc, R, rfl, hbox, ⟨cur, hcur, htk⟩, hrow, hR, n1, n2, n3, e1, e2, e3, hk⟩ := hN
  have ka : Kept (fun _ => False) wc (wc.alloc (.cells (madeCells #[.int .i64 0] on) 3)) := (Kept.refl _ wc).alloc _
  have kb : Kept (fun _ => False) w2 (wc.alloc (.cells (madeCells #[.int .i64 0] on) 3)) := hk.trans ka (fun _ _ h => h)
  have k1 : Kept (fun _ => False) w1 (wc.alloc (.cells (madeCells #[.int .i64 0] on) 3)) := k2.trans kb (fun _ _ h => h)
  have hBl := hbox.lt
  have hNl := (Array.getElem?_eq_some_iff.1 hcur).1
  have hRl := hrow.blk_lt hR
  have hsz := k2.size
  have hsz2 := hk.size
  refine ⟨B, NB, rfl, ow, fun k => if k = B then some 0 else if k = NB then some 1 else if k = wc.heap.size then some 2 else if k = R then some 3 else none, nc, rA, rc, mkNew os rs, os, rs, List.replicate on 0, ⟨hM.kept kb (by simp), ho, ?_, ?_, ?_, ?_, ?_, hbox.kept ka (by simp), ⟨cur, (ka.block NB hNl (by simp)).trans hcur, htk⟩, hl, fun o h => (hok o h).later k1, ?_, hrow.kept ka (by simp), madeRow wc on hn, k1⟩, ?_⟩
  · rintro k ⟨t, ht⟩
    have hno : w2.heap.size ≤ k → ¬ Own ow k := fun h1 h2 => by have := hM.lt k h2; omega
    have hcase : k = B ∨ k = NB ∨ k = wc.heap.size ∨ k = R := by
      simp only at ht
      split at ht
      · exact .inl (by assumption)
      · split at ht
        · exact .inr (.inl (by assumption))
        · split at ht
          · exact .inr (.inr (.inl (by assumption)))
          · split at ht
            · exact .inr (.inr (.inr (by assumption)))
            · cases ht
    rw [World.size_alloc]
    rcases hcase with rfl | rfl | rfl | rfl
    · exact ⟨by omega, by omega, hno (by omega)⟩
    · exact ⟨by omega, by omega, hno (by omega)⟩
    · exact ⟨by omega, by omega, hno (by omega)⟩
    · exact ⟨by omega, by omega, hno (by omega)⟩
  · simp
  · simp [e1.symm]
  · rw [if_neg (by omega), if_neg (by omega), if_pos rfl]
  · intro r hr
    rw [hR] at hr
    injection hr with hr
    subst hr
    show (if _ then _ else _) = _
    rw [if_neg (fun e => e2 e.symm), if_neg (fun e => e3 e.symm), if_neg (by omega), if_pos rfl]
  · intro o h r hr
    have hlt := (hok o h).touches_lt hr
    refine ⟨fun hh => by have := ho r hh; omega, ?_⟩
    rintro ⟨t, ht⟩
    simp only at ht
    rw [if_neg (by omega), if_neg (by omega), if_neg (by omega), if_neg (by omega)] at ht
    cases ht
  · refine ⟨mkNew_good hck rs, (mk0_sound os).reaches rs, Mk.same_reaches _ _, hck, hf, by omega, fun r hr => Mk.reached hr, rfl, fun i o x hi hx => ?_⟩
    have hx0 : x = 0 := by
      rw [List.getElem?_replicate] at hx
      split at hx
      · injection hx with hx; exact hx.symm
      · cases hx
    have hs : (Mk.colOf (mk0 os).nodes o.id).isSome := by
      cases hc : Mk.colOf (mk0 os).nodes o.id with
      | none => exact absurd rfl (find_none hc (ndOf o) (List.mem_map_of_mem (List.mem_of_getElem? hi)))
      | some c => rfl
    rw [← (Mk.same_reaches rs (mk0 os)).isSome] at hs
    obtain ⟨c, hc⟩ := Option.isSome_iff_exists.1 hs
    exact ⟨c, hc, by omega⟩
end Go.Proofs.Ytalhldfcdfdoeaa
