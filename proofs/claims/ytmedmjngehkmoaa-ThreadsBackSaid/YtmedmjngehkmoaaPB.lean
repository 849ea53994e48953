/- What is proved here: the contracts of package threads for a table beside other memory that the law holds. No condition. -/
import Derived.Test.YtmedmjngehkmoaaOwn
namespace Go.Proofs.Ytmedmjngehkmoaa
open Go.RowKit

/-- The table t lies at block g; since w only blocks of B, and new ones, have changed. -/
def PB (B : Nat → Prop) (w wr : World) (g : Nat) (t : Tab) : Prop := ∃ F, PMem wr F g t ∧ t.Inv ∧ Kept B w wr ∧ ∀ k, F k → k < w.heap.size → B k

section
variable {B : Nat → Prop} {w wr w' : World} {g : Nat} {t : Tab}
theorem PB.kept (h : PB B w wr g t) : Kept B w wr := by
  obtain ⟨_, _, _, h, _⟩ := h
  exact h
theorem PB.inv (h : PB B w wr g t) : t.Inv := by
  obtain ⟨_, _, h, _⟩ := h
  exact h
theorem PB.later (h : PB B w wr g t) (hk : Kept (fun _ => False) wr w') : PB B w w' g t := by
  obtain ⟨F, m, hI, k, s⟩ := h
  exact ⟨F, m.kept hk (fun _ _ h => h), hI, k.trans hk (fun _ _ h => h.elim), s⟩
theorem PB.post {F : Nat → Prop} {u : Tab} (hI : u.Inv) (hk : Kept B w wr) (hF : ∀ k, F k → k < w.heap.size → B k) (hp : PPost wr F g u w') : PB B w w' g u := by
  obtain ⟨F', m, k, s⟩ := hp
  refine ⟨F', m, hI, hk.trans k (fun i hi hf => hF i hf hi), fun i hi hlt => ?_⟩
  rcases s i hi with h | h
  · exact hF i h hlt
  · have := hk.size; omega

/-- From now on only the table's own blocks change. -/
theorem Mine.rebase (h : Mine w wr g t) (hk : Kept (fun _ => False) wr w') : ∃ B, PB B w' w' g t ∧ (∀ k, wr.heap.size ≤ k → ¬ B k) ∧ ∀ w'' t', PB B w' w'' g t' → Mine w w'' g t' := by
  obtain ⟨F, m, hI, k, s⟩ := h
  refine ⟨F, ⟨F, m.kept hk (fun _ _ h => h), hI, Kept.refl _ _, fun _ h _ => h⟩, fun i hi hf => ?_, ?_⟩
  · have := m.lt i hf; omega
  · rintro w'' t' ⟨F', m', hI', k', s'⟩
    have kk := k.trans hk (fun _ _ h => h)
    refine ⟨F', m', hI', kk.trans k' (fun i hi hf => by have := s i hf; omega), fun i hi => ?_⟩
    rcases Nat.lt_or_ge i w'.heap.size with hl | hl
    · exact s i (s' i hi hl)
    · exact Nat.le_trans kk.size hl

theorem pb_create (h : PB B w wr g t) : Calls Try.prog 11 #[.pointer (some ⟨g, 0, none⟩)] wr fun e w' => e = .returned (.tuple #[.int .i64 (t.create.1.1 : Int), .int .i64 (t.create.1.2 : Int)]) ∧ PB B w w' g t.create.2 := by
  obtain ⟨F, m, hI, k, s⟩ := h
  exact (p_create m).mono fun e w' ⟨he, hp⟩ => ⟨he, PB.post hI.create k s hp⟩
theorem pb_resume (h : PB B w wr g t) (id : Int) : Calls Try.prog 12 #[.pointer (some ⟨g, 0, none⟩), .int .i64 id] wr fun e w' => e = .returned (.int .i64 ((t.resume id).1 : Int)) ∧ PB B w w' g (t.resume id).2 := by
  obtain ⟨F, m, hI, k, s⟩ := h
  exact (p_resume hI m id).mono fun e w' ⟨he, hp⟩ => ⟨he, PB.post (hI.resume id) k s hp⟩
theorem pb_yield (h : PB B w wr g t) : Calls Try.prog 13 #[.pointer (some ⟨g, 0, none⟩)] wr fun e w' => e = .returned (.tuple #[.int .i64 (t.yld.1.1 : Int), .int .i64 (t.yld.1.2 : Int)]) ∧ PB B w w' g t.yld.2 := by
  obtain ⟨F, m, hI, k, s⟩ := h
  exact (p_yield hI m).mono fun e w' ⟨he, hp⟩ => ⟨he, PB.post hI.yld k s hp⟩
theorem pb_running (h : PB B w wr g t) : Calls Try.prog 15 #[.pointer (some ⟨g, 0, none⟩)] wr fun e w' => e = .returned (.int .i64 (t.now : Int)) ∧ wr = w' := by
  obtain ⟨F, m, hI, k, s⟩ := h
  exact p_running m
theorem pb_status (h : PB B w wr g t) (id : Int) : Calls Try.prog 18 #[.pointer (some ⟨g, 0, none⟩), .int .i64 id] wr fun e w' => e = .returned (.string (t.status id)) ∧ wr = w' := by
  obtain ⟨F, m, hI, k, s⟩ := h
  exact p_status m id
theorem pb_chain (h : PB B w wr g t) : Calls Try.prog 20 #[.pointer (some ⟨g, 0, none⟩)] wr fun e w' => (∃ v, e = .returned v ∧ Fresh wr t.chain v w') ∧ PB B w w' g t := by
  have hm := h
  obtain ⟨F, m, hI, k, s⟩ := h
  refine (p_chain hI m).mono ?_
  rintro e w' ⟨v, rfl, hf⟩
  exact ⟨⟨v, rfl, hf⟩, hm.later (by obtain ⟨_, _, _, _, _, k⟩ := hf; exact k)⟩
end
end Go.Proofs.Ytmedmjngehkmoaa
