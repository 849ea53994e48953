/- What is proved here: the marker as plain lists (objects with their references and colors, and the queue of gray ones): its steps, and what stays true of it. No condition. -/
import Derived.Calls
namespace Go.Proofs.Ytalhldfcdfdoeaa

/-- An object: its identity, its references, those of its entries, its color. -/
structure Nd where
  id : Int
  refs : List Int
  ents : List Int
  col : Nat

structure Mk where
  nodes : List Nd
  queue : List Int

namespace Mk

def colOf (l : List Nd) (id : Int) : Option Nat := (l.find? fun x => x.id == id).map Nd.col
def setCol (l : List Nd) (id : Int) (c : Nat) : List Nd := l.map fun x => if x.id = id then { x with col := c } else x
def allOf (l : List Nd) (id : Int) : List Int := ((l.find? fun x => x.id == id).map fun x => x.refs ++ x.ents).getD []

def reach (m : Mk) (id : Int) : Mk := if colOf m.nodes id = some 0 then ⟨setCol m.nodes id 1, m.queue ++ [id]⟩ else m
def one (m : Mk) : Mk := match m.queue with
  | [] => m
  | id :: q => ⟨setCol ((allOf m.nodes id).foldl reach ⟨m.nodes, q⟩).nodes id 2, ((allOf m.nodes id).foldl reach ⟨m.nodes, q⟩).queue⟩
def steps (m : Mk) : Nat → Mk
  | 0 => m
  | n + 1 => (m.one).steps n

/-- Two lists of objects that differ in colors alone. -/
def Same (l k : List Nd) : Prop := l.map (fun x => (x.id, x.refs, x.ents)) = k.map fun x => (x.id, x.refs, x.ents)

structure Good (m : Mk) : Prop where
  asc : m.nodes.Pairwise fun x y => x.id < y.id
  le : ∀ x, x ∈ m.nodes → x.col ≤ 2
  nodup : m.queue.Nodup
  gray : ∀ id, id ∈ m.queue ↔ colOf m.nodes id = some 1

theorem setCol_ids (l : List Nd) (id : Int) (c : Nat) : (setCol l id c).map Nd.id = l.map Nd.id := by
  unfold setCol
  rw [List.map_map]
  apply List.map_congr_left
  intro x _
  simp only [Function.comp]
  split <;> rfl

theorem colOf_setCol (l : List Nd) (id j : Int) (c : Nat) : colOf (setCol l id c) j = if j = id ∧ (colOf l id).isSome then some c else colOf l j := by
  induction l with
  | nil => simp [colOf, setCol]
  | cons x l ih =>
    have hc : ∀ (y : Nd) (k : List Nd), colOf (y :: k) j = if y.id = j then some y.col else colOf k j := by
      intro y k
      unfold colOf
      rw [List.find?_cons]
      by_cases h : y.id = j
      · simp [h]
      · have : (y.id == j) = false := by simp [h]
        rw [this]; simp [h]
    have hc' : ∀ (y : Nd) (k : List Nd), colOf (y :: k) id = if y.id = id then some y.col else colOf k id := by
      intro y k
      unfold colOf
      rw [List.find?_cons]
      by_cases h : y.id = id
      · simp [h]
      · have : (y.id == id) = false := by simp [h]
        rw [this]; simp [h]
    have hs : setCol (x :: l) id c = (if x.id = id then { x with col := c } else x) :: setCol l id c := rfl
    rw [hs, hc, hc', hc, ih]
    by_cases h1 : x.id = id
    · rw [if_pos h1]
      by_cases h2 : x.id = j
      · subst h2; simp [h1]
      · have : ¬ j = id := fun e => h2 (by rw [h1, e])
        simp [h2, this]
    · rw [if_neg h1]
      by_cases h2 : x.id = j
      · have : ¬ j = id := fun e => h1 (by rw [h2, e])
        simp [h2, this]
      · simp [h1, h2]

theorem same_setCol (l : List Nd) (id : Int) (c : Nat) : Same (setCol l id c) l := by
  unfold Same setCol
  rw [List.map_map]
  apply List.map_congr_left
  intro x _
  simp only [Function.comp]
  split <;> rfl
theorem Same.refl (l : List Nd) : Same l l := rfl
theorem Same.trans {a b c : List Nd} (h : Same a b) (k : Same b c) : Same a c := Eq.trans h k

theorem Same.ids {a b : List Nd} (h : Same a b) : a.map Nd.id = b.map Nd.id := by
  have := congrArg (List.map (fun p : Int × List Int × List Int => p.1)) h
  rw [List.map_map, List.map_map] at this
  exact this
theorem Same.length {a b : List Nd} (h : Same a b) : a.length = b.length := by
  have := congrArg List.length h
  simpa using this

theorem find_same {a b : List Nd} (h : Same a b) (id : Int) : (a.find? fun x => x.id == id).map (fun x => (x.refs, x.ents)) = (b.find? fun x => x.id == id).map fun x => (x.refs, x.ents) := by
  induction a generalizing b with
  | nil =>
    cases b with
    | nil => rfl
    | cons y b => simp [Same] at h
  | cons x a ih =>
    cases b with
    | nil => simp [Same] at h
    | cons y b =>
      unfold Same at h
      simp only [List.map_cons, List.cons.injEq, Prod.mk.injEq] at h
      obtain ⟨⟨h1, h2, h3⟩, h4⟩ := h
      rw [List.find?_cons, List.find?_cons, h1]
      by_cases e : y.id == id
      · simp [e, h2, h3]
      · simp [e]; simpa using ih (b := b) h4
theorem Same.all {a b : List Nd} (h : Same a b) (id : Int) : allOf a id = allOf b id := by
  have := find_same h id
  unfold allOf
  cases ha : a.find? (fun x => x.id == id) <;> cases hb : b.find? (fun x => x.id == id) <;> rw [ha, hb] at this <;> simp at this
  simp [this.1, this.2]
theorem Same.isSome {a b : List Nd} (h : Same a b) (id : Int) : (colOf a id).isSome = (colOf b id).isSome := by
  have := congrArg Option.isSome (find_same h id)
  unfold colOf
  simpa using this

theorem same_reach (m : Mk) (id : Int) : Same (m.reach id).nodes m.nodes := by
  unfold reach
  split
  · exact same_setCol _ _ _
  · exact Same.refl _
theorem same_reaches (l : List Int) (m : Mk) : Same (l.foldl reach m).nodes m.nodes := by
  induction l generalizing m with
  | nil => exact Same.refl _
  | cons x l ih => exact (ih (m.reach x)).trans (same_reach m x)
theorem same_one (m : Mk) : Same m.one.nodes m.nodes := by
  unfold one
  split
  · exact Same.refl _
  · exact (same_setCol _ _ _).trans (same_reaches _ _)
theorem same_steps (m : Mk) (n : Nat) : Same (m.steps n).nodes m.nodes := by
  induction n generalizing m with
  | zero => exact Same.refl _
  | succ n ih => exact (ih m.one).trans (same_one m)

theorem setCol_le {l : List Nd} (h : ∀ x, x ∈ l → x.col ≤ 2) (id : Int) {c : Nat} (hc : c ≤ 2) : ∀ x, x ∈ setCol l id c → x.col ≤ 2 := by
  intro x hx
  unfold setCol at hx
  obtain ⟨y, hy, rfl⟩ := List.mem_map.1 hx
  split
  · exact hc
  · exact h y hy
theorem asc_ids {l : List Nd} : l.Pairwise (fun x y => x.id < y.id) ↔ (l.map Nd.id).Pairwise (· < ·) := by rw [List.pairwise_map]
theorem Same.asc {a b : List Nd} (h : Same a b) (k : b.Pairwise fun x y => x.id < y.id) : a.Pairwise fun x y => x.id < y.id := by
  rw [asc_ids] at k ⊢
  rw [h.ids]
  exact k

theorem Good.reach {m : Mk} (h : Good m) (id : Int) : Good (m.reach id) := by
  have hs := same_reach m id
  unfold Mk.reach at hs ⊢
  by_cases hc : colOf m.nodes id = some 0
  · rw [if_pos hc] at hs ⊢
    have hni : id ∉ m.queue := by rw [h.gray, hc]; simp
    refine ⟨hs.asc h.asc, setCol_le h.le _ (by omega), ?_, ?_⟩
    · rw [List.nodup_append]
      refine ⟨h.nodup, by simp, ?_⟩
      intro a ha b hb
      simp at hb
      subst hb
      rintro rfl
      exact hni ha
    · intro j
      rw [List.mem_append, h.gray, colOf_setCol, hc]
      by_cases hj : j = id
      · subst hj; simp
      · simp [hj]
  · rw [if_neg hc]; exact h
theorem Good.reaches {m : Mk} (h : Good m) (l : List Int) : Good (l.foldl Mk.reach m) := by
  induction l generalizing m with
  | nil => exact h
  | cons x l ih => exact ih (h.reach x)

/-- Colors never become less. -/
theorem col_reach (m : Mk) (id j : Int) (c : Nat) (h : colOf m.nodes j = some c) : ∃ d, colOf (m.reach id).nodes j = some d ∧ c ≤ d ∧ (c ≠ 0 → d = c) := by
  unfold reach
  split
  · rename_i h0
    rw [colOf_setCol]
    by_cases hj : j = id
    · subst hj
      rw [h0] at h
      injection h with h
      subst h
      exact ⟨1, by simp [h0], by omega, fun hh => absurd rfl hh⟩
    · exact ⟨c, by simp [hj, h], Nat.le_refl _, fun _ => rfl⟩
  · exact ⟨c, h, Nat.le_refl _, fun _ => rfl⟩
theorem col_reaches (l : List Int) (m : Mk) (j : Int) (c : Nat) (h : colOf m.nodes j = some c) : ∃ d, colOf (l.foldl reach m).nodes j = some d ∧ c ≤ d ∧ (c ≠ 0 → d = c) := by
  induction l generalizing m c with
  | nil => exact ⟨c, h, Nat.le_refl _, fun _ => rfl⟩
  | cons x l ih =>
    obtain ⟨d, h1, h2, h3⟩ := col_reach m x j c h
    obtain ⟨e, g1, g2, g3⟩ := ih (m.reach x) d h1
    refine ⟨e, g1, by omega, fun hc => ?_⟩
    rw [g3 (by rw [h3 hc]; exact hc), h3 hc]
/-- What is reached is not white. -/
theorem reached {l : List Int} {m : Mk} {j : Int} (hj : j ∈ l) : colOf (l.foldl reach m).nodes j ≠ some 0 := by
  induction l generalizing m with
  | nil => cases hj
  | cons x l ih =>
    rcases List.mem_cons.1 hj with rfl | hj
    · intro h
      have h1 : colOf (m.reach j).nodes j ≠ some 0 := by
        unfold reach
        split
        · rename_i h0
          rw [colOf_setCol]; simp [h0]
        · assumption
      rcases hc : colOf (m.reach j).nodes j with _ | c
      · have := (same_reaches l (m.reach j)).isSome j
        rw [hc] at this
        simp at this
        simp at h
        rw [this] at h
        cases h
      · obtain ⟨d, g1, g2, _⟩ := col_reaches l (m.reach j) j c hc
        simp at h
        rw [g1] at h
        injection h with h
        subst h
        have : c = 0 := by omega
        subst this
        exact h1 hc
    · exact ih hj

theorem Good.one {m : Mk} (h : Good m) : Good m.one := by
  have hs := same_one m
  unfold Mk.one at hs ⊢
  match hq : m.queue with
  | [] => simp only; exact h
  | id :: q =>
    simp only [hq] at hs ⊢
    have hnd := h.nodup
    rw [hq] at hnd
    obtain ⟨hni, hnq⟩ := List.nodup_cons.1 hnd
    have hg : colOf m.nodes id = some 1 := (h.gray id).1 (by rw [hq]; simp)
    obtain ⟨m2, hm2⟩ : ∃ m2, m2 = (allOf m.nodes id).foldl Mk.reach ⟨m.nodes, q⟩ := ⟨_, rfl⟩
    rw [← hm2] at hs ⊢
    -- in m2 the color of id is still 1, the queue has the gray ones but id
    have key : ∀ (l : List Int) (k : Mk), colOf k.nodes id = some 1 → k.queue.Nodup → id ∉ k.queue → (∀ j, j ∈ k.queue ↔ (j ≠ id ∧ colOf k.nodes j = some 1)) → (∀ x, x ∈ k.nodes → x.col ≤ 2) →
        colOf (l.foldl Mk.reach k).nodes id = some 1 ∧ (l.foldl Mk.reach k).queue.Nodup ∧ (∀ j, j ∈ (l.foldl Mk.reach k).queue ↔ (j ≠ id ∧ colOf (l.foldl Mk.reach k).nodes j = some 1)) ∧ ∀ x, x ∈ (l.foldl Mk.reach k).nodes → x.col ≤ 2 := by
      intro l
      induction l with
      | nil => intro k h1 h2 h3 h4 h5; exact ⟨h1, h2, h4, h5⟩
      | cons x l ih =>
        intro k h1 h2 h3 h4 h5
        simp only [List.foldl_cons]
        unfold Mk.reach
        by_cases hc : colOf k.nodes x = some 0
        · rw [if_pos hc]
          have hxi : x ≠ id := by rintro rfl; rw [h1] at hc; cases hc
          have hxq : x ∉ k.queue := by rw [h4, hc]; simp
          refine ih _ ?_ ?_ ?_ ?_ (setCol_le h5 _ (by omega))
          · rw [colOf_setCol, if_neg (by rintro ⟨e, _⟩; exact hxi e.symm)]; exact h1
          · rw [List.nodup_append]
            refine ⟨h2, by simp, ?_⟩
            intro a ha b hb
            simp at hb
            subst hb
            rintro rfl
            exact hxq ha
          · rw [List.mem_append]
            rintro (hh | hh)
            · exact h3 hh
            · simp at hh; exact hxi hh.symm
          · intro j
            rw [List.mem_append, h4, colOf_setCol, hc]
            by_cases hj : j = x
            · subst hj; simp [hxi]
            · simp [hj]
        · rw [if_neg hc]; exact ih k h1 h2 h3 h4 h5
    obtain ⟨r1, r2, r3, r4⟩ := key (allOf m.nodes id) ⟨m.nodes, q⟩ hg hnq hni (by
      intro j
      have := h.gray j
      rw [hq, List.mem_cons] at this
      constructor
      · intro hj
        exact ⟨by rintro rfl; exact hni hj, this.1 (.inr hj)⟩
      · rintro ⟨hj, hc⟩
        rcases this.2 hc with e | e
        · exact absurd e hj
        · exact e) h.le
    rw [← hm2] at r1 r2 r3 r4
    refine ⟨hs.asc h.asc, setCol_le r4 _ (by omega), r2, ?_⟩
    intro j
    rw [r3, colOf_setCol, r1]
    by_cases hj : j = id
    · subst hj; simp
    · simp [hj]

theorem Good.steps {m : Mk} (h : Good m) (n : Nat) : Good (m.steps n) := by
  induction n generalizing m with
  | zero => exact h
  | succ n ih => exact ih h.one

theorem one_nil {m : Mk} (h : m.queue = []) : m.one = m := by
  unfold one
  rw [h]
theorem steps_nil {m : Mk} (h : m.queue = []) (n : Nat) : m.steps n = m := by
  induction n with
  | zero => rfl
  | succ n ih => show m.one.steps n = m; rw [one_nil h]; exact ih
theorem steps_add (m : Mk) (a b : Nat) : (m.steps a).steps b = m.steps (a + b) := by
  induction a generalizing m with
  | zero => rw [Nat.zero_add]; rfl
  | succ a ih => rw [Nat.succ_add]; exact ih m.one
theorem steps_succ (m : Mk) (n : Nat) : m.steps (n + 1) = (m.steps n).one := by
  rw [← steps_add m n 1]
  rfl

/-- How many are not black. -/
def pale (l : List Nd) : Nat := (l.filter fun x => x.col != 2).length
theorem pale_le (l : List Nd) : pale l ≤ l.length := List.length_filter_le _ _
theorem pale_cons (x : Nd) (l : List Nd) : pale (x :: l) = (if x.col = 2 then 0 else 1) + pale l := by
  unfold pale
  rw [List.filter_cons]
  by_cases h : x.col = 2
  · simp [h]
  · simp [h]; omega
theorem colOf_cons (x : Nd) (l : List Nd) (j : Int) : colOf (x :: l) j = if x.id = j then some x.col else colOf l j := by
  unfold colOf
  rw [List.find?_cons]
  by_cases h : x.id = j
  · simp [h]
  · have : (x.id == j) = false := by simp [h]
    rw [this]; simp [h]
theorem setCol_absent {l : List Nd} {id : Int} (h : ∀ x, x ∈ l → x.id ≠ id) (c : Nat) : setCol l id c = l := by
  unfold setCol
  conv => rhs; rw [← List.map_id l]
  apply List.map_congr_left
  intro x hx
  simp [h x hx]
theorem pale_setCol {l : List Nd} (ha : l.Pairwise fun x y => x.id < y.id) {id : Int} {c d : Nat} (h : colOf l id = some c) (hc : c ≠ 2) : pale (setCol l id d) = if d = 2 then pale l - 1 else pale l := by
  induction l with
  | nil => simp [colOf] at h
  | cons x l ih =>
    obtain ⟨hx, hl⟩ := List.pairwise_cons.1 ha
    have hs : setCol (x :: l) id d = (if x.id = id then { x with col := d } else x) :: setCol l id d := rfl
    rw [hs, pale_cons, pale_cons]
    rw [colOf_cons] at h
    by_cases e : x.id = id
    · rw [if_pos e] at h
      injection h with h
      rw [if_pos e, setCol_absent (fun y hy => by have := hx y hy; omega)]
      simp only
      rw [if_neg (by omega : ¬ x.col = 2)]
      by_cases hd : d = 2
      · simp [hd]
      · simp [hd]
    · rw [if_neg e] at h
      rw [if_neg e, ih hl h]
      have hp : 0 < pale l := by
        clear ih ha hx hl hs
        induction l with
        | nil => simp [colOf] at h
        | cons y l ih2 =>
          rw [colOf_cons] at h
          rw [pale_cons]
          by_cases e2 : y.id = id
          · rw [if_pos e2] at h
            injection h with h
            rw [if_neg (by omega : ¬ y.col = 2)]
            omega
          · rw [if_neg e2] at h
            have := ih2 h
            omega
      by_cases hd : d = 2
      · simp [hd]; omega
      · simp [hd]
theorem pale_pos {l : List Nd} {id : Int} {c : Nat} (h : colOf l id = some c) (hc : c ≠ 2) : 0 < pale l := by
  induction l with
  | nil => simp [colOf] at h
  | cons y l ih2 =>
    rw [colOf_cons] at h
    rw [pale_cons]
    by_cases e2 : y.id = id
    · rw [if_pos e2] at h
      injection h with h
      rw [if_neg (by omega : ¬ y.col = 2)]
      omega
    · rw [if_neg e2] at h
      have := ih2 h
      omega
theorem pale_reach {m : Mk} (ha : m.nodes.Pairwise fun x y => x.id < y.id) (id : Int) : pale (m.reach id).nodes = pale m.nodes := by
  unfold reach
  split
  · rename_i h
    rw [pale_setCol ha h (by omega)]
    simp
  · rfl
theorem pale_reaches (l : List Int) {m : Mk} (ha : m.nodes.Pairwise fun x y => x.id < y.id) : pale (l.foldl reach m).nodes = pale m.nodes := by
  induction l generalizing m with
  | nil => rfl
  | cons x l ih =>
    rw [List.foldl_cons, ih ((same_reach m x).asc ha), pale_reach ha]
theorem pale_one {m : Mk} (h : Good m) (hq : m.queue ≠ []) : pale m.one.nodes + 1 = pale m.nodes := by
  unfold one
  match hq' : m.queue with
  | [] => exact absurd hq' hq
  | id :: q =>
    simp only
    have hg : colOf m.nodes id = some 1 := (h.gray id).1 (by rw [hq']; simp)
    have ha2 := (same_reaches (allOf m.nodes id) ⟨m.nodes, q⟩).asc h.asc
    obtain ⟨d, h1, h2, h3⟩ := col_reaches (allOf m.nodes id) ⟨m.nodes, q⟩ id 1 hg
    have := h3 (by omega)
    subst this
    rw [pale_setCol ha2 h1 (by omega), pale_reaches (allOf m.nodes id) (m := ⟨m.nodes, q⟩) h.asc]
    have := pale_pos hg (by omega)
    simp
    omega
theorem pale_steps {m : Mk} (h : Good m) (n : Nat) (hq : (m.steps n).queue ≠ []) : n < pale m.nodes := by
  induction n generalizing m with
  | zero =>
    match hq' : m.queue with
    | [] => exact absurd hq' hq
    | id :: q => exact pale_pos ((h.gray id).1 (by rw [hq']; simp)) (by omega)
  | succ n ih =>
    by_cases hn : m.queue = []
    · rw [steps_nil hn] at hq
      exact absurd hn hq
    · have h1 := ih h.one hq
      have h2 := pale_one h hn
      omega
/-- After as many steps as there are objects nothing is gray. -/
theorem steps_end {m : Mk} (h : Good m) {n : Nat} (hn : m.nodes.length ≤ n) : (m.steps n).queue = [] := by
  apply Classical.byContradiction
  intro hq
  have h1 := pale_steps h n hq
  have h2 := pale_le m.nodes
  omega
theorem steps_cap {m : Mk} (h : Good m) (n : Nat) : m.steps (min n m.nodes.length) = m.steps n := by
  rcases Nat.le_total n m.nodes.length with hl | hl
  · rw [Nat.min_eq_left hl]
  · rw [Nat.min_eq_right hl]
    obtain ⟨d, rfl⟩ := Nat.exists_eq_add_of_le hl
    rw [← steps_add, steps_nil (steps_end h (Nat.le_refl _))]

/-- No black object refers to a white one. -/
def Sound (m : Mk) : Prop := ∀ id, colOf m.nodes id = some 2 → ∀ r, r ∈ allOf m.nodes id → colOf m.nodes r ≠ some 0

theorem Sound.reach {m : Mk} (h : Sound m) (x : Int) : Sound (m.reach x) := by
  intro id hid r hr
  rw [(same_reach m x).all] at hr
  have h2 : colOf m.nodes id = some 2 := by
    rcases hc : colOf m.nodes id with _ | c
    · have := (same_reach m x).isSome id
      rw [hc, hid] at this
      cases this
    · obtain ⟨d, h1, h2, h3⟩ := col_reach m x id c hc
      rw [hid] at h1
      injection h1 with h1
      subst h1
      by_cases c0 : c = 0
      · subst c0
        unfold Mk.reach at hid
        split at hid
        · rw [colOf_setCol] at hid
          split at hid
          · cases hid
          · rw [hc] at hid; cases hid
        · rw [hc] at hid; cases hid
      · rw [h3 c0]
  have h0 := h id h2 r hr
  intro hw
  rcases hc : colOf m.nodes r with _ | c
  · have := (same_reach m x).isSome r
    rw [hc, hw] at this
    cases this
  · obtain ⟨d, h1, h2, h3⟩ := col_reach m x r c hc
    rw [hw] at h1
    injection h1 with h1
    subst h1
    have : c = 0 := by omega
    subst this
    exact h0 hc
theorem Sound.reaches {m : Mk} (h : Sound m) (l : List Int) : Sound (l.foldl Mk.reach m) := by
  induction l generalizing m with
  | nil => exact h
  | cons x l ih => exact ih (h.reach x)
theorem Sound.one {m : Mk} (h : Sound m) : Sound m.one := by
  unfold Mk.one
  match hq : m.queue with
  | [] => simp only; exact h
  | id :: q =>
    simp only
    have hS : Sound ⟨m.nodes, q⟩ := h
    have h2 := hS.reaches (allOf m.nodes id)
    have hs := same_reaches (allOf m.nodes id) ⟨m.nodes, q⟩
    have hr : ∀ j, j ∈ allOf m.nodes id → colOf ((allOf m.nodes id).foldl Mk.reach ⟨m.nodes, q⟩).nodes j ≠ some 0 := fun j hj => reached hj
    obtain ⟨m2, hm2⟩ : ∃ m2, m2 = (allOf m.nodes id).foldl Mk.reach ⟨m.nodes, q⟩ := ⟨_, rfl⟩
    rw [← hm2] at h2 hs hr ⊢
    intro j hj r hrj
    have hs2 := same_setCol m2.nodes id 2
    simp only at hj hrj ⊢
    rw [hs2.all] at hrj
    have hnw : colOf m2.nodes r ≠ some 0 := by
      rw [colOf_setCol] at hj
      by_cases e : j = id
      · subst e
        rw [hs.all] at hrj
        exact hr r hrj
      · simp [e] at hj
        exact h2 j hj r hrj
    rw [colOf_setCol]
    split
    · simp
    · exact hnw
theorem Sound.steps {m : Mk} (h : Sound m) (n : Nat) : Sound (m.steps n) := by
  induction n generalizing m with
  | zero => exact h
  | succ n ih => exact ih h.one

end Mk
end Go.Proofs.Ytalhldfcdfdoeaa
