/- What is proved here: the coroutine table as plain lists (states, and the chain of those that are running or normal), its calls, and that the chain stays well formed. No condition. -/
import Derived.Calls
namespace Go.Proofs.Ytmedmjngehkmoaa

structure Tab where
  sts : List Nat
  chain : List Nat

namespace Tab

def init : Tab := ⟨[1], [0]⟩
def st (t : Tab) (i : Nat) : Nat := t.sts[i]?.getD 0
def now (t : Tab) : Nat := t.chain.headD 0

/-- Each member of the chain is linked with the next. -/
def Links : List Nat → List Nat → Prop
  | a :: b :: c, bs => bs[a]? = some b ∧ Links (b :: c) bs
  | _, _ => True

structure Inv (t : Tab) : Prop where
  some_ : ∃ a c, t.chain = a :: c
  last : t.chain.getLast? = some 0
  nodup : t.chain.Nodup
  short : t.chain.length ≤ 9
  few : t.sts.length ≤ 65536
  lt : ∀ i, i ∈ t.chain → i < t.sts.length
  run : ∀ i, i < t.sts.length → (t.st i = 1 ↔ t.chain.head? = some i)
  nor : ∀ i, i < t.sts.length → (t.st i = 2 ↔ i ∈ t.chain.tail)
  le : ∀ i, t.st i ≤ 5

def create (t : Tab) : (Nat × Nat) × Tab := if 65536 ≤ t.sts.length then ((0, 17), t) else ((t.sts.length, 0), ⟨t.sts ++ [0], t.chain⟩)
def resume (t : Tab) (id : Int) : Nat × Tab :=
  if id < 0 ∨ (t.sts.length : Int) ≤ id then (6, t) else
  if 3 ≤ t.st id.toNat then (19, t) else
  if t.st id.toNat ≠ 0 then (16, t) else
  if 9 ≤ t.chain.length then (17, t) else
  (0, ⟨(t.sts.set t.now 2).set id.toNat 1, id.toNat :: t.chain⟩)
def back (t : Tab) (s : Nat) : Tab := ⟨(t.sts.set t.now s).set (t.chain.tail.headD 0) 1, t.chain.tail⟩
def yld (t : Tab) : (Nat × Nat) × Tab := if t.now = 0 then ((0, 25), t) else (((t.back 0).now, 0), t.back 0)
def fin (t : Tab) (failed : Bool) : (Nat × Nat) × Tab :=
  if t.now = 0 then ((0, 16), t) else (((t.back (if failed then 4 else 3)).now, 0), t.back (if failed then 4 else 3))
def close (t : Tab) (id : Int) : Nat × Tab :=
  if id < 0 ∨ (t.sts.length : Int) ≤ id then (6, t) else
  if t.st id.toNat = 1 ∨ t.st id.toNat = 2 then (16, t) else
  if t.st id.toNat = 3 ∨ t.st id.toNat = 5 then (19, t) else
  (0, ⟨t.sts.set id.toNat 5, t.chain⟩)

/-- A call: its kind, its number, its flag. -/
structure Op where
  kind : Int
  id : Int
  failed : Bool

def ans (t : Tab) (x : Op) : Nat × Nat :=
  if x.kind = 0 then t.create.1 else if x.kind = 1 then (0, (t.resume x.id).1) else if x.kind = 2 then t.yld.1 else if x.kind = 3 then (t.fin x.failed).1 else (0, (t.close x.id).1)
def next (t : Tab) (x : Op) : Tab :=
  if x.kind = 0 then t.create.2 else if x.kind = 1 then (t.resume x.id).2 else if x.kind = 2 then t.yld.2 else if x.kind = 3 then (t.fin x.failed).2 else (t.close x.id).2

theorem inv_init : Inv init := by
  refine ⟨⟨0, [], rfl⟩, rfl, by decide, by decide, by decide, ?_, ?_, ?_, ?_⟩
  · intro i hi; simp [init] at hi ⊢; omega
  · intro i hi; simp [init] at hi; subst hi; simp [st, init]
  · intro i hi; simp [init] at hi; subst hi; simp [st, init]
  · intro i; unfold st init; match i with
    | 0 => simp
    | n + 1 => simp

theorem Inv.now_eq {t : Tab} (h : Inv t) : t.chain.head? = some t.now := by
  obtain ⟨a, c, e⟩ := h.some_
  simp [now, e]
theorem Inv.now_lt {t : Tab} (h : Inv t) : t.now < t.sts.length := by
  obtain ⟨a, c, e⟩ := h.some_
  exact h.lt _ (by simp [now, e])
theorem Inv.pos {t : Tab} (h : Inv t) : 0 < t.sts.length := Nat.lt_of_le_of_lt (Nat.zero_le _) h.now_lt

theorem st_set (l : List Nat) (c : List Nat) (i j s : Nat) : st ⟨l.set i s, c⟩ j = if i = j ∧ i < l.length then s else st ⟨l, c⟩ j := by
  unfold st
  simp only [List.getElem?_set]
  by_cases h : i = j
  · subst h
    by_cases hl : i < l.length
    · simp [hl]
    · simp [hl]
  · simp [h]

theorem Inv.create {t : Tab} (h : Inv t) : Inv t.create.2 := by
  unfold Tab.create
  by_cases hf : 65536 ≤ t.sts.length
  · rw [if_pos hf]; exact h
  · rw [if_neg hf]
    have hst : ∀ i, st ⟨t.sts ++ [0], t.chain⟩ i = t.st i := by
      intro i
      unfold st
      by_cases hi : i < t.sts.length
      · simp [List.getElem?_append_left hi]
      · rw [List.getElem?_append_right (by omega), List.getElem?_eq_none (by omega : t.sts.length ≤ i)]
        rcases Nat.eq_zero_or_pos (i - t.sts.length) with e | e
        · simp [e]
        · rw [List.getElem?_eq_none (by simp; omega)]
    refine ⟨h.some_, h.last, h.nodup, h.short, by simp; omega, fun i hi => by have := h.lt i hi; simp; omega, ?_, ?_, fun i => by rw [hst]; exact h.le i⟩
    · intro i hi
      rw [hst]
      by_cases hl : i < t.sts.length
      · exact h.run i hl
      · have e0 : t.st i = 0 := by unfold st; rw [List.getElem?_eq_none (by omega)]; rfl
        rw [e0]
        constructor
        · intro e; cases e
        · intro e
          have : i ∈ t.chain := List.mem_of_mem_head? (by rw [e]; rfl)
          exact absurd (h.lt i this) hl
    · intro i hi
      rw [hst]
      by_cases hl : i < t.sts.length
      · exact h.nor i hl
      · have e0 : t.st i = 0 := by unfold st; rw [List.getElem?_eq_none (by omega)]; rfl
        rw [e0]
        constructor
        · intro e; cases e
        · intro e
          exact absurd (h.lt i (List.mem_of_mem_tail e)) hl

theorem Inv.not_chain {t : Tab} (h : Inv t) {i : Nat} (hi : i < t.sts.length) (h1 : t.st i ≠ 1) (h2 : t.st i ≠ 2) : i ∉ t.chain := by
  intro hm
  obtain ⟨a, c, e⟩ := h.some_
  rw [e] at hm
  rcases List.mem_cons.1 hm with rfl | hm
  · exact h1 ((h.run _ hi).2 (by simp [e]))
  · exact h2 ((h.nor _ hi).2 (by simp [e]; exact hm))

theorem Inv.resume_ok {t : Tab} (h : Inv t) {i : Nat} (hi : i < t.sts.length) (h0 : t.st i = 0) (hs : t.chain.length < 9) : Inv ⟨(t.sts.set t.now 2).set i 1, i :: t.chain⟩ := by
  have hn := h.not_chain hi (by omega) (by omega)
  obtain ⟨a, c, e⟩ := h.some_
  have hna : t.now = a := by simp [now, e]
  have hia : i ≠ a := by rintro rfl; exact hn (by rw [e]; simp)
  have halt : a < t.sts.length := h.lt a (by simp [e])
  have hnd := h.nodup
  rw [e] at hnd
  refine ⟨⟨i, t.chain, rfl⟩, ?_, List.nodup_cons.2 ⟨hn, h.nodup⟩, by simp; omega, by simp; exact h.few, ?_, ?_, ?_, ?_⟩
  · rw [List.getLast?_cons, h.last]; rfl
  · intro j hj
    simp only [List.length_set]
    rcases List.mem_cons.1 hj with rfl | hj
    · exact hi
    · exact h.lt j hj
  · intro j hj
    simp only [List.length_set] at hj
    rw [st_set, st_set, hna]
    simp only [List.length_set, List.head?_cons, Option.some.injEq]
    by_cases hij : i = j
    · subst hij; simp [hi]
    · by_cases haj : a = j
      · subst haj; simp [hij, halt]
      · simp only [hij, false_and, if_false, haj, iff_false]
        intro h1
        have := (h.run j hj).1 h1
        simp [e] at this
        exact haj this
  · intro j hj
    simp only [List.length_set] at hj
    rw [st_set, st_set, hna]
    simp only [List.length_set, List.tail_cons]
    by_cases hij : i = j
    · subst hij; simp [hi, hn]
    · by_cases haj : a = j
      · subst haj; simp [hij, halt, e]
      · simp only [hij, false_and, if_false, haj]
        rw [show st ⟨t.sts, i :: t.chain⟩ j = t.st j from rfl, h.nor j hj, e]
        simp
        intro h'; exact absurd h'.symm haj
  · intro j
    rw [st_set, st_set]
    split
    · omega
    · split
      · omega
      · exact h.le j

theorem Inv.resume {t : Tab} (h : Inv t) (id : Int) : Inv (t.resume id).2 := by
  unfold Tab.resume
  split
  · exact h
  split
  · exact h
  split
  · exact h
  split
  · exact h
  · refine h.resume_ok (by omega) (by omega) (by omega)

/-- The chain of a table in which a coroutine other than the main one runs. -/
theorem Inv.two {t : Tab} (h : Inv t) (hn : t.now ≠ 0) : ∃ a b c, t.chain = a :: b :: c ∧ a = t.now := by
  obtain ⟨a, c, e⟩ := h.some_
  match c, e with
  | [], e =>
    have := h.last
    rw [e] at this
    simp at this
    exact absurd (by simp [now, e, this]) hn
  | b :: c, e => exact ⟨a, b, c, e, by simp [now, e]⟩

theorem Inv.back {t : Tab} (h : Inv t) (hn : t.now ≠ 0) {s : Nat} (hs : s ≤ 5) (h1 : s ≠ 1) (h2 : s ≠ 2) : Inv (t.back s) := by
  obtain ⟨a, b, c, e, ha⟩ := h.two hn
  have hnd := h.nodup
  rw [e] at hnd
  obtain ⟨hac, hbc⟩ := List.nodup_cons.1 hnd
  have hab : a ≠ b := by rintro rfl; exact hac (by simp)
  have halt : a < t.sts.length := h.lt a (by simp [e])
  have hblt : b < t.sts.length := h.lt b (by simp [e])
  unfold Tab.back
  rw [← ha, e]
  simp only [List.tail_cons, List.headD_cons]
  refine ⟨⟨b, c, rfl⟩, ?_, hbc, by have := h.short; rw [e] at this; simp at this ⊢; omega, by simp; exact h.few, ?_, ?_, ?_, ?_⟩
  · have := h.last; rw [e, List.getLast?_cons_cons] at this; exact this
  · intro j hj; simp only [List.length_set]; exact h.lt j (by rw [e]; exact List.mem_cons_of_mem _ hj)
  · intro j hj
    simp only [List.length_set] at hj
    rw [st_set, st_set]
    simp only [List.length_set, List.head?_cons, Option.some.injEq]
    by_cases hbj : b = j
    · subst hbj; simp [hblt]
    · by_cases haj : a = j
      · subst haj; simp [hbj, halt, h1]
      · simp only [hbj, false_and, if_false, haj, iff_false]
        intro h1
        have := (h.run j hj).1 h1
        simp [e] at this
        exact haj this
  · intro j hj
    simp only [List.length_set] at hj
    rw [st_set, st_set]
    simp only [List.length_set, List.tail_cons]
    by_cases hbj : b = j
    · subst hbj; simp [hblt]; exact (List.nodup_cons.1 hbc).1
    · by_cases haj : a = j
      · subst haj; simp [hbj, halt, h2]; exact fun h => hac (List.mem_cons_of_mem _ h)
      · simp only [hbj, false_and, if_false, haj]
        rw [show st ⟨t.sts, b :: c⟩ j = t.st j from rfl, h.nor j hj, e]
        simp
        intro h'; exact absurd h'.symm hbj
  · intro j
    rw [st_set, st_set]
    split
    · omega
    · split
      · exact hs
      · exact h.le j

theorem Inv.yld {t : Tab} (h : Inv t) : Inv t.yld.2 := by
  unfold Tab.yld
  split
  · exact h
  · exact h.back (by assumption) (by omega) (by omega) (by omega)
theorem Inv.fin {t : Tab} (h : Inv t) (b : Bool) : Inv (t.fin b).2 := by
  unfold Tab.fin
  split
  · exact h
  · cases b
    · exact h.back (by assumption) (by simp) (by simp) (by simp)
    · exact h.back (by assumption) (by simp) (by simp) (by simp)

theorem Inv.close {t : Tab} (h : Inv t) (id : Int) : Inv (t.close id).2 := by
  unfold Tab.close
  split
  · exact h
  split
  · exact h
  split
  · exact h
  · rename_i hr h12 h35
    have hi : id.toNat < t.sts.length := by omega
    have hn := h.not_chain hi (by omega) (by omega)
    refine ⟨h.some_, h.last, h.nodup, h.short, by simp; exact h.few, fun j hj => by simp; exact h.lt j hj, ?_, ?_, ?_⟩
    · intro j hj
      simp only [List.length_set] at hj
      rw [st_set]
      by_cases hij : id.toNat = j
      · subst hij
        rw [if_pos ⟨rfl, hi⟩]
        constructor
        · intro e; cases e
        · intro e; exact absurd (List.mem_of_mem_head? (by rw [show t.chain.head? = some id.toNat from e]; rfl)) hn
      · rw [if_neg (by simp [hij])]; exact h.run j hj
    · intro j hj
      simp only [List.length_set] at hj
      rw [st_set]
      by_cases hij : id.toNat = j
      · subst hij
        rw [if_pos ⟨rfl, hi⟩]
        constructor
        · intro e; cases e
        · intro e; exact absurd (List.mem_of_mem_tail e) hn
      · rw [if_neg (by simp [hij])]; exact h.nor j hj
    · intro j
      rw [st_set]
      split
      · omega
      · exact h.le j

theorem Inv.next {t : Tab} (h : Inv t) (x : Op) : Inv (t.next x) := by
  unfold Tab.next
  split
  · exact h.create
  split
  · exact h.resume _
  split
  · exact h.yld
  split
  · exact h.fin _
  · exact h.close _

theorem links_set {c bs : List Nat} {i x : Nat} (h : Links c bs) (hi : i ∉ c) : Links c (bs.set i x) := by
  match c, h with
  | [], _ => trivial
  | [a], _ => trivial
  | a :: b :: c, h =>
    refine ⟨?_, links_set h.2 (fun hm => hi (List.mem_cons_of_mem _ hm))⟩
    rw [List.getElem?_set_ne (by rintro rfl; exact hi (by simp))]
    exact h.1
theorem links_append {c bs : List Nat} (h : Links c bs) (ys : List Nat) : Links c (bs ++ ys) := by
  match c, h with
  | [], _ => trivial
  | [a], _ => trivial
  | a :: b :: c, h =>
    refine ⟨?_, links_append h.2 ys⟩
    have := h.1
    rw [List.getElem?_append_left (by rcases Nat.lt_or_ge a bs.length with hl | hl; exact hl; rw [List.getElem?_eq_none hl] at this; cases this)]
    exact this
theorem links_cons {c bs : List Nat} {i b : Nat} (h : Links c bs) (hb : c.head? = some b) (hi : bs[i]? = some b) : Links (i :: c) bs := by
  match c, hb with
  | b :: c, hb =>
    simp at hb
    subst hb
    exact ⟨hi, h⟩
theorem links_tail {a : Nat} {c bs : List Nat} (h : Links (a :: c) bs) : Links c bs := by
  match c, h with
  | [], _ => trivial
  | b :: c, h => exact h.2

end Tab
end Go.Proofs.Ytmedmjngehkmoaa
