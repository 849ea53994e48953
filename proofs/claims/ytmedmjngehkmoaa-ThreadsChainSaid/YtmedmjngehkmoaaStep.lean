/- What is proved here: the contract of the law's 'step': it makes the call with both tables and says whether they answer alike. Condition: both tables lie in memory and are well formed. -/
import Derived.Test.YtmedmjngehkmoaaBoth
namespace Go.Proofs.Ytmedmjngehkmoaa
open Go.RowKit
section
variable {B : Nat → Prop} {w wr w' : World} {g g2 : Nat} {t u : Tab}

set_option maxHeartbeats 1000000 in
theorem step_one (h : Both B w wr g g2 t u) (id : Int) (fl : Bool) : Calls Try.prog 22 #[.pointer (some ⟨g, 0, none⟩), .pointer (some ⟨g2, 0, none⟩), .agg #[.int .i64 1, .int .i64 id, .bool fl]] wr
    fun e w' => e = .returned (.bool (((t.resume id).1 : Int) == ((u.resume id).1 : Int))) ∧ Both B w w' g g2 (t.resume id).2 (u.resume id).2 := by
  obtain ⟨B0, h0, hB, hout⟩ := h.enter (.cells #[.int .i64 1, .int .i64 id, .bool fl] 44)
  have HOUT := Lib.hid hout
  have HB := Lib.hid hB
  clear hout h hB
  go_enter Try.func22, Try.ntmps22
  go_wp2
  obtain ⟨W, hW⟩ : ∃ W, W = wr.alloc (.cells #[.int .i64 1, .int .i64 id, .bool fl] 44) := ⟨_, rfl⟩
  have hblk : Blk W wr.heap.size 44 #[.int .i64 1, .int .i64 id, .bool fl] := by rw [hW]; exact Blk.new wr _ _
  rw [← hW] at h0 ⊢
  have hc : W.cell? ⟨wr.heap.size, 1, none⟩ = some (.int .i64 id) := hblk.cell 1
  have HBK := Lib.hid hblk
  have HW := Lib.hid hW
  clear hW hblk
  generalize wr.heap.size = bx at *
  go_region_held3 (fun w' => w'.cell? ⟨bx, 1, none⟩ = some (.int .i64 id)) (first | go_keep | exact hcc)
    (first
      | (go_at_call 12; refine (b_resume (h0.drew) _).mono ?_; rintro e w1 ⟨rfl, h1⟩; have hcc : w1.cell? ⟨bx, 1, none⟩ = some (.int .i64 id) := (HBK.out.kept h1.kept HB.out).cell 1)
      | (go_at_call 29; refine (c_resume h1 _).mono ?_; rintro e w2 ⟨rfl, h2⟩; have hcc : w2.cell? ⟨bx, 1, none⟩ = some (.int .i64 id) := (HBK.out.kept h2.kept HB.out).cell 1))
  go_wp2
  go_ret
  exact ⟨rfl, HOUT.out _ _ _ (by rw [← HW.out]; exact h2)⟩

set_option maxHeartbeats 1000000 in
theorem step_four (h : Both B w wr g g2 t u) (kd id : Int) (fl : Bool) (h0' : ((kd : Int) == 0) = false) (h1' : ((kd : Int) == 1) = false) (h2' : ((kd : Int) == 2) = false) (h3' : ((kd : Int) == 3) = false) :
    Calls Try.prog 22 #[.pointer (some ⟨g, 0, none⟩), .pointer (some ⟨g2, 0, none⟩), .agg #[.int .i64 kd, .int .i64 id, .bool fl]] wr
    fun e w' => e = .returned (.bool (((t.close id).1 : Int) == ((u.close id).1 : Int))) ∧ Both B w w' g g2 (t.close id).2 (u.close id).2 := by
  obtain ⟨B0, h0, hB, hout⟩ := h.enter (.cells #[.int .i64 kd, .int .i64 id, .bool fl] 44)
  have HOUT := Lib.hid hout
  have HB := Lib.hid hB
  clear hout h hB
  go_enter Try.func22, Try.ntmps22
  go_wp2
  obtain ⟨W, hW⟩ : ∃ W, W = wr.alloc (.cells #[.int .i64 kd, .int .i64 id, .bool fl] 44) := ⟨_, rfl⟩
  have hblk : Blk W wr.heap.size 44 #[.int .i64 kd, .int .i64 id, .bool fl] := by rw [hW]; exact Blk.new wr _ _
  rw [← hW] at h0 ⊢
  have hc : W.cell? ⟨wr.heap.size, 1, none⟩ = some (.int .i64 id) := hblk.cell 1
  have HBK := Lib.hid hblk
  have HW := Lib.hid hW
  clear hW hblk
  generalize wr.heap.size = bx at *
  go_region_held3 (fun w' => w'.cell? ⟨bx, 1, none⟩ = some (.int .i64 id)) (first | go_keep | exact hcc)
    (first
      | (go_at_call 19; refine (b_close (h0.drew) _).mono ?_; rintro e w1 ⟨rfl, h1⟩; have hcc : w1.cell? ⟨bx, 1, none⟩ = some (.int .i64 id) := (HBK.out.kept h1.kept HB.out).cell 1)
      | (go_at_call 32; refine (c_close h1 _).mono ?_; rintro e w2 ⟨rfl, h2⟩; have hcc : w2.cell? ⟨bx, 1, none⟩ = some (.int .i64 id) := (HBK.out.kept h2.kept HB.out).cell 1))
  go_wp2
  go_ret
  exact ⟨rfl, HOUT.out _ _ _ (by rw [← HW.out]; exact h2)⟩

/-- Two pairs of numbers, compared as the law does. -/
def eqv (p q : Nat × Nat) : Bool := decide (p = q)
theorem eqv_left {p q : Nat × Nat} (h : p.1 = q.1) : eqv p q = ((p.2 : Int) == (q.2 : Int)) := by
  obtain ⟨a, b⟩ := p
  obtain ⟨c, d⟩ := q
  simp at h
  subst h
  rw [Bool.eq_iff_iff]
  simp only [eqv, Prod.mk.injEq, true_and, decide_eq_true_eq, beq_iff_eq]
  omega
theorem eqv_ne {p q : Nat × Nat} (h : ¬ p.1 = q.1) : eqv p q = false := by
  simp only [eqv, decide_eq_false_iff_not]
  exact fun e => h (by rw [e])

set_option maxHeartbeats 1000000 in
theorem step_zero (h : Both B w wr g g2 t u) (id : Int) (fl : Bool) : Calls Try.prog 22 #[.pointer (some ⟨g, 0, none⟩), .pointer (some ⟨g2, 0, none⟩), .agg #[.int .i64 0, .int .i64 id, .bool fl]] wr
    fun e w' => e = .returned (.bool (eqv t.create.1 u.create.1)) ∧ Both B w w' g g2 t.create.2 u.create.2 := by
  obtain ⟨B0, h0, hB, hout⟩ := h.enter (.cells #[.int .i64 0, .int .i64 id, .bool fl] 44)
  have HOUT := Lib.hid hout
  clear hout h hB
  go_enter Try.func22, Try.ntmps22
  go_wp2_with fail
  refine (b_create h0).mono ?_
  rintro e w1 ⟨rfl, h1⟩
  go_wp2_with fail
  refine (c_create h1).mono ?_
  rintro e w2 ⟨rfl, h2⟩
  have H2 := Lib.hid (HOUT.out _ _ _ h2)
  clear h1 h2 h0 HOUT
  by_cases hpq : t.create.1.1 = u.create.1.1
  · have hb : ((t.create.1.1 : Int) == (u.create.1.1 : Int)) = true := by simp [hpq]
    have HE := Lib.hid (eqv_left hpq)
    clear hpq
    go_wp2
    go_ret
    exact ⟨by rw [HE.out]; rfl, H2.out⟩
  · have hb : ((t.create.1.1 : Int) == (u.create.1.1 : Int)) = false := by simp; omega
    have HE := Lib.hid (eqv_ne hpq)
    clear hpq
    go_wp2
    go_ret
    exact ⟨by rw [HE.out]; rfl, H2.out⟩

set_option maxHeartbeats 1000000 in
theorem step_two (h : Both B w wr g g2 t u) (id : Int) (fl : Bool) : Calls Try.prog 22 #[.pointer (some ⟨g, 0, none⟩), .pointer (some ⟨g2, 0, none⟩), .agg #[.int .i64 2, .int .i64 id, .bool fl]] wr
    fun e w' => e = .returned (.bool (eqv t.yld.1 u.yld.1)) ∧ Both B w w' g g2 t.yld.2 u.yld.2 := by
  obtain ⟨B0, h0, hB, hout⟩ := h.enter (.cells #[.int .i64 2, .int .i64 id, .bool fl] 44)
  have HOUT := Lib.hid hout
  clear hout h hB
  go_enter Try.func22, Try.ntmps22
  go_wp2_with fail
  refine (b_yield h0).mono ?_
  rintro e w1 ⟨rfl, h1⟩
  go_wp2_with fail
  refine (c_yield h1).mono ?_
  rintro e w2 ⟨rfl, h2⟩
  have H2 := Lib.hid (HOUT.out _ _ _ h2)
  clear h1 h2 h0 HOUT
  by_cases hpq : t.yld.1.1 = u.yld.1.1
  · have hb : ((t.yld.1.1 : Int) == (u.yld.1.1 : Int)) = true := by simp [hpq]
    have HE := Lib.hid (eqv_left hpq)
    clear hpq
    go_wp2
    go_ret
    exact ⟨by rw [HE.out]; rfl, H2.out⟩
  · have hb : ((t.yld.1.1 : Int) == (u.yld.1.1 : Int)) = false := by simp; omega
    have HE := Lib.hid (eqv_ne hpq)
    clear hpq
    go_wp2
    go_ret
    exact ⟨by rw [HE.out]; rfl, H2.out⟩

set_option maxHeartbeats 1000000 in
theorem step_three (h : Both B w wr g g2 t u) (id : Int) (fl : Bool) : Calls Try.prog 22 #[.pointer (some ⟨g, 0, none⟩), .pointer (some ⟨g2, 0, none⟩), .agg #[.int .i64 3, .int .i64 id, .bool fl]] wr
    fun e w' => e = .returned (.bool (eqv (t.fin fl).1 (u.fin fl).1)) ∧ Both B w w' g g2 (t.fin fl).2 (u.fin fl).2 := by
  obtain ⟨B0, h0, hB, hout⟩ := h.enter (.cells #[.int .i64 3, .int .i64 id, .bool fl] 44)
  have HOUT := Lib.hid hout
  have HB := Lib.hid hB
  have HBK := Lib.hid (Blk.new wr 44 #[.int .i64 3, .int .i64 id, .bool fl])
  clear hout h hB
  go_enter Try.func22, Try.ntmps22
  go_wp2_with fail
  refine (b_end h0 _).mono ?_
  rintro e w1 ⟨rfl, h1⟩
  have hc : w1.cell? ⟨wr.heap.size, 2, none⟩ = some (.bool fl) := (HBK.out.kept h1.kept HB.out).cell 2
  go_wp2_with fail
  refine (c_end h1 _).mono ?_
  rintro e w2 ⟨rfl, h2⟩
  have H2 := Lib.hid (HOUT.out _ _ _ h2)
  clear h1 h2 h0 HOUT hc
  by_cases hpq : (t.fin fl).1.1 = (u.fin fl).1.1
  · have hb : (((t.fin fl).1.1 : Int) == ((u.fin fl).1.1 : Int)) = true := by simp [hpq]
    have HE := Lib.hid (eqv_left hpq)
    clear hpq
    go_wp2
    go_ret
    exact ⟨by rw [HE.out]; rfl, H2.out⟩
  · have hb : (((t.fin fl).1.1 : Int) == ((u.fin fl).1.1 : Int)) = false := by simp; omega
    have HE := Lib.hid (eqv_ne hpq)
    clear hpq
    go_wp2
    go_ret
    exact ⟨by rw [HE.out]; rfl, H2.out⟩

theorem step_any (h : Both B w wr g g2 t u) (x : Tab.Op) : Calls Try.prog 22 #[.pointer (some ⟨g, 0, none⟩), .pointer (some ⟨g2, 0, none⟩), .agg #[.int .i64 x.kind, .int .i64 x.id, .bool x.failed]] wr
    fun e w' => e = .returned (.bool (eqv (t.ans x) (u.ans x))) ∧ Both B w w' g g2 (t.next x) (u.next x) := by
  obtain ⟨kd, id, fl⟩ := x
  unfold Tab.ans Tab.next
  simp only
  by_cases k0 : kd = 0
  · subst k0
    exact step_zero h id fl
  rw [if_neg k0, if_neg k0, if_neg k0, if_neg k0]
  by_cases k1 : kd = 1
  · subst k1
    refine (step_one h id fl).mono fun e w' ⟨he, hb⟩ => ⟨he.trans ?_, hb⟩
    congr 2
    rw [Bool.eq_iff_iff]; simp [eqv]; omega
  rw [if_neg k1, if_neg k1, if_neg k1, if_neg k1]
  by_cases k2 : kd = 2
  · subst k2
    exact step_two h id fl
  rw [if_neg k2, if_neg k2, if_neg k2, if_neg k2]
  by_cases k3 : kd = 3
  · subst k3
    exact step_three h id fl
  rw [if_neg k3, if_neg k3, if_neg k3, if_neg k3]
  refine (step_four h kd id fl (by simpa using k0) (by simpa using k1) (by simpa using k2) (by simpa using k3)).mono fun e w' ⟨he, hb⟩ => ⟨he.trans ?_, hb⟩
  congr 2
  rw [Bool.eq_iff_iff]; simp [eqv]; omega

theorem step_same (h : Both B w wr g g2 t t) (x : Tab.Op) : Calls Try.prog 22 #[.pointer (some ⟨g, 0, none⟩), .pointer (some ⟨g2, 0, none⟩), .agg #[.int .i64 x.kind, .int .i64 x.id, .bool x.failed]] wr
    fun e w' => e = .returned (.bool true) ∧ Both B w w' g g2 (t.next x) (t.next x) :=
  (step_any h x).mono fun e w' ⟨he, hb⟩ => ⟨by rw [he]; simp [eqv], hb⟩

end
end Go.Proofs.Ytmedmjngehkmoaa
