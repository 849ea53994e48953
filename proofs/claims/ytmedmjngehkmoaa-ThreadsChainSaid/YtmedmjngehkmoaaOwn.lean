/- What is proved here: the contracts of package threads for a table that the law made itself, and that 'lives' returns true. No condition. -/
import Derived.Test.YtmedmjngehkmoaaTabB
namespace Go.Proofs.Ytmedmjngehkmoaa
open Go.RowKit

def tab1 : Tab := ⟨[1, 0], [0]⟩
def tab2 : Tab := ⟨[2, 1], [1, 0]⟩

theorem PPost.mem {w w' : World} {F : Nat → Prop} {g : Nat} {t : Tab} (h : PPost w F g t w') : ∃ F', PMem w' F' g t ∧ Kept F w w' ∧ ∀ k, F' k → F k ∨ w.heap.size ≤ k := h

set_option maxHeartbeats 1000000 in
theorem lives_any (w : World) : Calls Try.prog 16 #[] w fun e w' => e = .returned (.bool true) ∧ Kept (fun _ => False) w w' := by
  go_enter Try.func16, Try.ntmps16
  go_wp2_with fail
  refine (p_new w).mono ?_
  rintro e w1 ⟨rfl, F1, m1, k1, s1⟩
  have I0 := Lib.hid Tab.inv_init
  have K1 := Lib.hid k1
  have S1 := Lib.hid s1
  clear k1 s1
  generalize w.heap.size + 1 = g at *
  go_wp2_with fail
  refine (p_create m1).mono ?_
  rintro e w2 ⟨rfl, F2, m2, k2, s2⟩
  rw [show Tab.init.create.1.1 = 1 from rfl, show Tab.init.create.1.2 = 0 from rfl]
  have m2' : PMem w2 F2 g tab1 := m2
  have I1 : Hid (tab1.Inv) := Tab.inv_init.create
  have K2 := Lib.hid k2
  have S2 := Lib.hid s2
  clear k2 s2 m2 m1 I0
  go_wp2_with fail
  refine (p_resume I1.out m2' _).mono ?_
  rintro e w3 ⟨rfl, F3, m3, k3, s3⟩
  rw [show (tab1.resume 1).1 = 0 from rfl]
  have m3' : PMem w3 F3 g tab2 := m3
  have K3 := Lib.hid k3
  have S3 := Lib.hid s3
  clear k3 s3 m3 m2' I1
  go_wp2_with fail
  refine (p_running m3').mono ?_
  rintro e w4 ⟨rfl, rfl⟩
  rw [show (tab2.now) = 1 from rfl]
  go_wp2_with fail
  refine (p_status m3' _).mono ?_
  rintro e w4 ⟨rfl, rfl⟩
  rw [show (tab2.status 0) = ⟨#[110, 111, 114, 109, 97, 108]⟩ from rfl]
  go_wp2_with fail
  refine (p_status m3' _).mono ?_
  rintro e w4 ⟨rfl, rfl⟩
  rw [show (tab2.status 1) = ⟨#[114, 117, 110, 110, 105, 110, 103]⟩ from rfl]
  go_wp2
  go_ret
  refine ⟨by simp, ?_⟩
  have a1 := K1.out.trans K2.out (fun i hi hf => by rcases S1.out i hf with h | h; exact h; omega)
  refine a1.trans K3.out (fun i hi hf => ?_)
  rcases S2.out i hf with h | h
  · rcases S1.out i h with h | h
    · exact h
    · omega
  · have := K1.out.size; omega

/-- Since w the table t was made at block g; nothing that was there has changed. -/
def Mine (w wr : World) (g : Nat) (t : Tab) : Prop := ∃ F, PMem wr F g t ∧ t.Inv ∧ Kept (fun _ => False) w wr ∧ ∀ k, F k → w.heap.size ≤ k

theorem Mine.kept {w wr : World} {g : Nat} {t : Tab} (h : Mine w wr g t) : Kept (fun _ => False) w wr := by
  obtain ⟨_, _, _, h, _⟩ := h
  exact h
theorem Mine.inv {w wr : World} {g : Nat} {t : Tab} (h : Mine w wr g t) : t.Inv := by
  obtain ⟨_, _, h, _⟩ := h
  exact h
theorem Mine.post {w wr w' : World} {F : Nat → Prop} {g : Nat} {t u : Tab} (hI : u.Inv) (hk : Kept (fun _ => False) w wr) (hF : ∀ k, F k → w.heap.size ≤ k) (hp : PPost wr F g u w') (_ : PMem wr F g t) : Mine w w' g u := by
  obtain ⟨F', m, k, s⟩ := hp
  refine ⟨F', m, hI, hk.trans k (fun i hi hf => ?_), fun i hi => ?_⟩
  · have := hF i hf; omega
  · rcases s i hi with h | h
    · exact hF i h
    · exact Nat.le_trans hk.size h
theorem Mine.later {w wr w' : World} {g : Nat} {t : Tab} (h : Mine w wr g t) (hk : Kept (fun _ => False) wr w') : Mine w w' g t := by
  obtain ⟨F, m, hI, k, s⟩ := h
  exact ⟨F, m.kept hk (fun _ _ h => h), hI, k.trans hk (fun _ _ h => h), s⟩

section
variable {w wr : World} {g : Nat} {t : Tab}
theorem m_new (w : World) : Calls Try.prog 10 #[] w fun e w' => e = .returned (.pointer (some ⟨w.heap.size + 1, 0, none⟩)) ∧ Mine w w' (w.heap.size + 1) Tab.init := by
  refine (p_new w).mono ?_
  rintro e w' ⟨rfl, F, m, k, s⟩
  exact ⟨rfl, F, m, Tab.inv_init, k, fun i hi => by rcases s i hi with h | h; exact h.elim; exact h⟩
theorem m_create (h : Mine w wr g t) : Calls Try.prog 11 #[.pointer (some ⟨g, 0, none⟩)] wr fun e w' => e = .returned (.tuple #[.int .i64 (t.create.1.1 : Int), .int .i64 (t.create.1.2 : Int)]) ∧ Mine w w' g t.create.2 := by
  obtain ⟨F, m, hI, k, s⟩ := h
  exact (p_create m).mono fun e w' ⟨he, hp⟩ => ⟨he, Mine.post hI.create k s hp m⟩
theorem m_resume (h : Mine w wr g t) (id : Int) : Calls Try.prog 12 #[.pointer (some ⟨g, 0, none⟩), .int .i64 id] wr fun e w' => e = .returned (.int .i64 ((t.resume id).1 : Int)) ∧ Mine w w' g (t.resume id).2 := by
  obtain ⟨F, m, hI, k, s⟩ := h
  exact (p_resume hI m id).mono fun e w' ⟨he, hp⟩ => ⟨he, Mine.post (hI.resume id) k s hp m⟩
theorem m_yield (h : Mine w wr g t) : Calls Try.prog 13 #[.pointer (some ⟨g, 0, none⟩)] wr fun e w' => e = .returned (.tuple #[.int .i64 (t.yld.1.1 : Int), .int .i64 (t.yld.1.2 : Int)]) ∧ Mine w w' g t.yld.2 := by
  obtain ⟨F, m, hI, k, s⟩ := h
  exact (p_yield hI m).mono fun e w' ⟨he, hp⟩ => ⟨he, Mine.post hI.yld k s hp m⟩
theorem m_end (h : Mine w wr g t) (b : Bool) : Calls Try.prog 14 #[.pointer (some ⟨g, 0, none⟩), .bool b] wr fun e w' => e = .returned (.tuple #[.int .i64 ((t.fin b).1.1 : Int), .int .i64 ((t.fin b).1.2 : Int)]) ∧ Mine w w' g (t.fin b).2 := by
  obtain ⟨F, m, hI, k, s⟩ := h
  exact (p_end hI m b).mono fun e w' ⟨he, hp⟩ => ⟨he, Mine.post (hI.fin b) k s hp m⟩
theorem m_close (h : Mine w wr g t) (id : Int) : Calls Try.prog 19 #[.pointer (some ⟨g, 0, none⟩), .int .i64 id] wr fun e w' => e = .returned (.int .i64 ((t.close id).1 : Int)) ∧ Mine w w' g (t.close id).2 := by
  obtain ⟨F, m, hI, k, s⟩ := h
  exact (p_close hI m id).mono fun e w' ⟨he, hp⟩ => ⟨he, Mine.post (hI.close id) k s hp m⟩
theorem m_running (h : Mine w wr g t) : Calls Try.prog 15 #[.pointer (some ⟨g, 0, none⟩)] wr fun e w' => e = .returned (.int .i64 (t.now : Int)) ∧ wr = w' := by
  obtain ⟨F, m, hI, k, s⟩ := h
  exact p_running m
theorem m_count (h : Mine w wr g t) : Calls Try.prog 25 #[.pointer (some ⟨g, 0, none⟩)] wr fun e w' => e = .returned (.int .i64 (t.sts.length : Int)) ∧ wr = w' := by
  obtain ⟨F, m, hI, k, s⟩ := h
  exact p_count m
theorem m_status (h : Mine w wr g t) (id : Int) : Calls Try.prog 18 #[.pointer (some ⟨g, 0, none⟩), .int .i64 id] wr fun e w' => e = .returned (.string (t.status id)) ∧ wr = w' := by
  obtain ⟨F, m, hI, k, s⟩ := h
  exact p_status m id
theorem m_chain (h : Mine w wr g t) : Calls Try.prog 20 #[.pointer (some ⟨g, 0, none⟩)] wr fun e w' => (∃ v, e = .returned v ∧ Fresh wr t.chain v w') ∧ Mine w w' g t := by
  have hm := h
  obtain ⟨F, m, hI, k, s⟩ := h
  refine (p_chain hI m).mono ?_
  rintro e w' ⟨v, rfl, hf⟩
  exact ⟨⟨v, rfl, hf⟩, hm.later (by obtain ⟨_, _, _, _, _, k⟩ := hf; exact k)⟩
end
end Go.Proofs.Ytmedmjngehkmoaa
