/- What is proved here: a reference added to the plain marker keeps what is true of it, and at the end all that can be reached is black. No condition. -/
import Derived.Test.YtalhldfcdfdoeaaLaw
namespace Go.Proofs.Ytalhldfcdfdoeaa
namespace Mk

def addRef (l : List Nd) (f t : Int) : List Nd := l.map fun x => if x.id = f then { x with refs := x.refs ++ [t] } else x
def write (m : Mk) (f t : Int) : Mk := if colOf m.nodes f = some 2 then reach ⟨addRef m.nodes f t, m.queue⟩ t else ⟨addRef m.nodes f t, m.queue⟩

theorem addRef_ids (l : List Nd) (f t : Int) : (addRef l f t).map Nd.id = l.map Nd.id := by
  unfold addRef
  rw [List.map_map]
  apply List.map_congr_left
  intro x _
  simp only [Function.comp]
  split <;> rfl
theorem addRef_cons (x : Nd) (l : List Nd) (f t : Int) : addRef (x :: l) f t = (if x.id = f then { x with refs := x.refs ++ [t] } else x) :: addRef l f t := rfl
theorem addRef_col (l : List Nd) (f t j : Int) : colOf (addRef l f t) j = colOf l j := by
  induction l with
  | nil => rfl
  | cons x l ih =>
    rw [addRef_cons, colOf_cons, colOf_cons, ih]
    by_cases h : x.id = f <;> simp [h]
theorem allOf_cons (x : Nd) (l : List Nd) (j : Int) : allOf (x :: l) j = if x.id = j then x.refs ++ x.ents else allOf l j := by
  unfold allOf
  rw [List.find?_cons]
  by_cases h : x.id = j
  · simp [h]
  · have : (x.id == j) = false := by simp [h]
    rw [this]; simp [h]
theorem mem_addRef {l : List Nd} {f t j r : Int} (h : r ∈ allOf (addRef l f t) j) : r ∈ allOf l j ∨ (j = f ∧ r = t) := by
  induction l with
  | nil => exact .inl h
  | cons x l ih =>
    rw [addRef_cons, allOf_cons] at h
    rw [allOf_cons]
    by_cases e : x.id = f
    · simp only [e, if_true] at h
      by_cases e2 : f = j
      · rw [if_pos e2] at h
        rw [if_pos (by rw [e, e2])]
        simp only [List.append_assoc, List.mem_append, List.mem_singleton] at h ⊢
        rcases h with h | h | h
        · exact .inl (.inl h)
        · exact .inr ⟨e2.symm, h⟩
        · exact .inl (.inr h)
      · rw [if_neg e2] at h
        rw [if_neg (by rw [e]; exact e2)]
        exact ih h
    · simp only [e, if_false] at h
      by_cases e2 : x.id = j
      · rw [if_pos e2] at h ⊢
        exact .inl h
      · rw [if_neg e2] at h ⊢
        exact ih h
theorem addRef_le {l : List Nd} (h : ∀ x, x ∈ l → x.col ≤ 2) (f t : Int) : ∀ x, x ∈ addRef l f t → x.col ≤ 2 := by
  intro x hx
  unfold addRef at hx
  obtain ⟨y, hy, rfl⟩ := List.mem_map.1 hx
  split
  · exact h y hy
  · exact h y hy
theorem addRef_asc {l : List Nd} (f t : Int) (k : l.Pairwise fun x y => x.id < y.id) : (addRef l f t).Pairwise fun x y => x.id < y.id := by
  rw [asc_ids] at k ⊢
  rw [addRef_ids]
  exact k
theorem Good.addRef {m : Mk} (h : Good m) (f t : Int) : Good ⟨addRef m.nodes f t, m.queue⟩ :=
  ⟨addRef_asc f t h.asc, addRef_le h.le f t, h.nodup, fun id => by rw [addRef_col]; exact h.gray id⟩
theorem Good.write {m : Mk} (h : Good m) (f t : Int) : Good (m.write f t) := by
  unfold Mk.write
  split
  · exact (h.addRef f t).reach t
  · exact h.addRef f t
theorem same_write (m : Mk) (f t : Int) : Same (m.write f t).nodes (addRef m.nodes f t) := by
  unfold write
  split
  · exact same_reach _ t
  · exact Same.refl _
theorem col_write (m : Mk) (f t j : Int) (c : Nat) (h : colOf m.nodes j = some c) : ∃ d, colOf (m.write f t).nodes j = some d ∧ c ≤ d ∧ (c ≠ 0 → d = c) := by
  unfold write
  split
  · exact col_reach ⟨addRef m.nodes f t, m.queue⟩ t j c (by rw [addRef_col]; exact h)
  · exact ⟨c, by rw [addRef_col]; exact h, Nat.le_refl _, fun _ => rfl⟩
theorem two_reach {m : Mk} {x j : Int} (h : colOf (m.reach x).nodes j = some 2) : colOf m.nodes j = some 2 := by
  unfold reach at h
  split at h
  · rw [colOf_setCol] at h
    split at h
    · cases h
    · exact h
  · exact h
theorem notWhite_reach {m : Mk} {x j : Int} (h : colOf m.nodes j ≠ some 0) : colOf (m.reach x).nodes j ≠ some 0 := by
  unfold reach
  split
  · rw [colOf_setCol]
    split
    · simp
    · exact h
  · exact h
theorem Sound.write {m : Mk} (h : Sound m) (f t : Int) : Sound (m.write f t) := by
  unfold Mk.write
  by_cases hf : colOf m.nodes f = some 2
  · rw [if_pos hf]
    intro id hid r hr
    rw [(same_reach ⟨Mk.addRef m.nodes f t, m.queue⟩ t).all] at hr
    have h2 := two_reach hid
    simp only [addRef_col] at h2
    rcases mem_addRef hr with hr | ⟨_, rfl⟩
    · exact notWhite_reach (by simp only [addRef_col]; exact h id h2 r hr)
    · exact reached (l := [r]) (m := ⟨Mk.addRef m.nodes f r, m.queue⟩) (by simp)
  · rw [if_neg hf]
    intro id hid r hr
    simp only [addRef_col] at hid ⊢
    rcases mem_addRef hr with hr | ⟨e, _⟩
    · exact h id hid r hr
    · rw [e] at hid; exact absurd hid hf
theorem col_one {m : Mk} (hG : Good m) (j : Int) (c : Nat) (h : colOf m.nodes j = some c) : ∃ d, colOf m.one.nodes j = some d ∧ c ≤ d := by
  have hle : ∀ d, colOf m.one.nodes j = some d → d ≤ 2 := fun d hd => by
    unfold colOf at hd
    rw [Option.map_eq_some_iff] at hd
    obtain ⟨x, hx, rfl⟩ := hd
    exact hG.one.le x (List.mem_of_find?_eq_some hx)
  have hlc : c ≤ 2 := by
    unfold colOf at h
    rw [Option.map_eq_some_iff] at h
    obtain ⟨x, hx, rfl⟩ := h
    exact hG.le x (List.mem_of_find?_eq_some hx)
  unfold one
  match hq : m.queue with
  | [] => exact ⟨c, h, Nat.le_refl _⟩
  | id :: q =>
    simp only
    obtain ⟨d, h1, h2, _⟩ := col_reaches (allOf m.nodes id) ⟨m.nodes, q⟩ j c h
    rw [colOf_setCol]
    split
    · exact ⟨2, rfl, hlc⟩
    · exact ⟨d, h1, h2⟩
theorem col_steps {m : Mk} (hG : Good m) (n : Nat) (j : Int) (c : Nat) (h : colOf m.nodes j = some c) : ∃ d, colOf (m.steps n).nodes j = some d ∧ c ≤ d := by
  induction n generalizing m c with
  | zero => exact ⟨c, h, Nat.le_refl _⟩
  | succ n ih =>
    obtain ⟨d, h1, h2⟩ := col_one hG j c h
    obtain ⟨e, g1, g2⟩ := ih hG.one d h1
    exact ⟨e, g1, by omega⟩
theorem notWhite_steps {m : Mk} (n : Nat) {j : Int} (h : colOf m.nodes j ≠ some 0) : colOf (m.steps n).nodes j ≠ some 0 := by
  rcases hc : colOf m.nodes j with _ | c
  · have := (same_steps m n).isSome j
    rw [hc] at this
    intro e
    rw [e] at this
    cases this
  · obtain ⟨d, h1, h2⟩ := pos_steps m n hc (by rintro rfl; exact h hc)
    rw [h1]
    intro e
    injection e with e
    exact h2 e
theorem notWhite_write {m : Mk} {f t j : Int} (h : colOf m.nodes j ≠ some 0) : colOf (m.write f t).nodes j ≠ some 0 := by
  unfold write
  split
  · exact notWhite_reach (by rw [addRef_col]; exact h)
  · rw [addRef_col]; exact h

/-- All that is reached in m is black in e. -/
def Under (e m : Mk) : Prop := Same m.nodes e.nodes ∧ ∀ j c, colOf m.nodes j = some c → c ≠ 0 → colOf e.nodes j = some 2
theorem Under.reach {e m : Mk} (h : Under e m) (x : Int) (hx : (colOf e.nodes x).isSome → colOf e.nodes x = some 2) : Under e (m.reach x) := by
  refine ⟨(same_reach m x).trans h.1, ?_⟩
  intro j c hj hc
  unfold Mk.reach at hj
  split at hj
  · rename_i h0
    rw [colOf_setCol] at hj
    split at hj
    · rename_i hh
      rw [hh.1]
      apply hx
      rw [← h.1.isSome]
      exact hh.2
    · exact h.2 j c hj hc
  · exact h.2 j c hj hc
theorem Under.reaches {e m : Mk} (h : Under e m) (l : List Int) (hx : ∀ x, x ∈ l → (colOf e.nodes x).isSome → colOf e.nodes x = some 2) : Under e (l.foldl Mk.reach m) := by
  induction l generalizing m with
  | nil => exact h
  | cons x l ih => exact ih (h.reach x (hx x (by simp))) (fun y hy => hx y (List.mem_cons_of_mem _ hy))
theorem ended_two {e : Mk} (hG : Good e) (hq : e.queue = []) {x : Int} (h : colOf e.nodes x ≠ some 0) (hs : (colOf e.nodes x).isSome) : colOf e.nodes x = some 2 := by
  rcases hc : colOf e.nodes x with _ | c
  · rw [hc] at hs; cases hs
  · have h0 : c ≠ 0 := by rintro rfl; exact h hc
    rw [hG.two hq hc h0]
theorem Under.one {e m : Mk} (h : Under e m) (hm : Good m) (hG : Good e) (hS : Sound e) (hq : e.queue = []) : Under e m.one := by
  unfold Mk.one
  match hqm : m.queue with
  | [] => simp only; exact h
  | id :: q =>
    simp only
    have hg : colOf m.nodes id = some 1 := (hm.gray id).1 (by rw [hqm]; simp)
    have hid := h.2 id 1 hg (by omega)
    have hU : Under e ⟨m.nodes, q⟩ := h
    have h2 := hU.reaches (allOf m.nodes id) (fun x hx hs => ended_two hG hq (hS id hid x (by rw [← h.1.all]; exact hx)) hs)
    refine ⟨(same_setCol _ _ _).trans h2.1, ?_⟩
    intro j c hj hc
    rw [colOf_setCol] at hj
    split at hj
    · rename_i hh
      rw [hh.1]; exact hid
    · exact h2.2 j c hj hc
theorem Under.steps {e m : Mk} (h : Under e m) (hm : Good m) (hG : Good e) (hS : Sound e) (hq : e.queue = []) (n : Nat) : Under e (m.steps n) := by
  induction n generalizing m with
  | zero => exact h
  | succ n ih => exact ih (h.one hm hG hS hq) hm.one
end Mk

theorem mk0_white (os : List Ob) (j : Int) (c : Nat) (h : Mk.colOf (mk0 os).nodes j = some c) : c = 0 := by
  unfold Mk.colOf mk0 at h
  rw [Option.map_eq_some_iff] at h
  obtain ⟨x, hx, rfl⟩ := h
  have := List.mem_of_find?_eq_some hx
  simp only [List.mem_map] at this
  obtain ⟨o, _, rfl⟩ := this
  rfl

/-- What can be reached in the graph os, rs is black in an ended sound marker over the same objects that has the roots. -/
theorem live_black {os : List Ob} {rs : List Int} {e : Mk} (hck : chk 0 os = true) (hs : Mk.Same e.nodes (mk0 os).nodes) (hG : e.Good) (hS : e.Sound) (hq : e.queue = []) (hr : ∀ r, r ∈ rs → Mk.colOf e.nodes r ≠ some 0)
    {x : Int} (hx : x ∈ bl (mkEnd os rs) os os.length) : Mk.colOf e.nodes x = some 2 := by
  have hU0 : Mk.Under e (mk0 os) := ⟨hs.symm, fun j c hj hc => absurd (mk0_white os j c hj) hc⟩
  have hU1 : Mk.Under e (mkNew os rs) := hU0.reaches rs (fun r hr' h => Mk.ended_two hG hq (hr r hr') h)
  have hU := hU1.steps (mkNew_good hck rs) hG hS hq os.length
  obtain ⟨o, ho, rfl, hc⟩ := (mem_bl (Nat.le_refl _)).1 hx
  exact hU.2 o.id 2 hc (by omega)

/-- The graph's copy with a reference added. -/
def obAdd (o : Ob) (A : Option Addr) (c : Nat) (t : Int) : Ob := { o with rA := A, rc := c, refs := o.refs ++ [t] }
theorem same_add {l : List Nd} {os : List Ob} (h : Mk.Same l (mk0 os).nodes) (ha : os.Pairwise fun a b => a.id < b.id) {i : Nat} {o : Ob} (ho : os[i]? = some o) (A : Option Addr) (c : Nat) (t : Int) : Mk.Same (Mk.addRef l o.id t) (mk0 (os.set i (obAdd o A c t))).nodes := by
  have h1 : Mk.Same (Mk.addRef l o.id t) (Mk.addRef (mk0 os).nodes o.id t) := by
    unfold Mk.Same Mk.addRef at *
    rw [List.map_map, List.map_map]
    have e : ∀ k : List Nd, k.map ((fun x : Nd => (x.id, x.refs, x.ents)) ∘ fun x => if x.id = o.id then { x with refs := x.refs ++ [t] } else x) = (k.map fun x => (x.id, x.refs, x.ents)).map (fun p : Int × List Int × List Int => if p.1 = o.id then (p.1, p.2.1 ++ [t], p.2.2) else p) := by
      intro k
      rw [List.map_map]
      apply List.map_congr_left
      intro x _
      simp only [Function.comp]
      split <;> rfl
    rw [e, e, h]
  refine h1.trans ?_
  have h2 : Mk.addRef (mk0 os).nodes o.id t = (mk0 (os.set i (obAdd o A c t))).nodes := by
    unfold Mk.addRef mk0
    apply List.ext_getElem?
    intro k
    simp only [List.getElem?_map, List.getElem?_set, List.map_map]
    by_cases hk : i = k
    · subst hk
      obtain ⟨hi, e⟩ := List.getElem?_eq_some_iff.1 ho
      simp only [hi, if_true]
      rw [ho]
      simp [ndOf, obAdd]
    · rw [if_neg hk]
      rcases hok : os[k]? with _ | o'
      · simp
      · have hne : o'.id ≠ o.id := by
          obtain ⟨hi, e1⟩ := List.getElem?_eq_some_iff.1 ho
          obtain ⟨hk', e2⟩ := List.getElem?_eq_some_iff.1 hok
          rw [List.pairwise_iff_getElem] at ha
          rcases Nat.lt_or_gt_of_ne hk with hl | hl
          · have := ha i k hi hk' hl
            rw [e1, e2] at this
            omega
          · have := ha k i hk' hi hl
            rw [e1, e2] at this
            omega
        simp [ndOf, hne]
  rw [h2]
  exact Mk.Same.refl _
theorem chk_set {os : List Ob} {i : Nat} {o : Ob} (ho : os[i]? = some o) (A : Option Addr) (c : Nat) (t l : Int) : chk l (os.set i (obAdd o A c t)) = chk l os := by
  induction os generalizing i l with
  | nil => simp
  | cons x os ih =>
    cases i with
    | zero =>
      simp at ho
      subst ho
      simp [chk, okOb, obAdd]
    | succ i =>
      simp at ho
      simp only [List.set_cons_succ, chk]
      rw [ih ho]
end Go.Proofs.Ytalhldfcdfdoeaa
