/- What is proved here: the contracts of both coroutine tables where they lie in memory side by side, and of the law's 'step'. Condition: both tables lie in memory and are well formed. -/
import Derived.Test.YtmedmjngehkmoaaOwn
import Derived.Test.YtmedmjngehkmoaaRefC
import Derived.Deep.RegionHeld3
namespace Go.Proofs.Ytmedmjngehkmoaa
open Go.RowKit

/-- The program's table t at g and the reference's table u at g2 lie apart; since w only blocks of B, and new ones, have changed. -/
def Both (B : Nat → Prop) (w wr : World) (g g2 : Nat) (t u : Tab) : Prop :=
  ∃ F G, PMem wr F g t ∧ RMem wr G g2 u ∧ t.Inv ∧ u.Inv ∧ (∀ k, F k → ¬ G k) ∧ Kept B w wr ∧ ∀ k, (F k ∨ G k) → k < w.heap.size → B k

section
variable {B : Nat → Prop} {w wr w' : World} {g g2 : Nat} {t u : Tab}
theorem Both.drew (h : Both B w wr g g2 t u) : Both B w wr.drew g g2 t u := by
  obtain ⟨F, G, m, n, i, j, d, k, s⟩ := h
  have kk : Kept (fun _ => False) wr wr.drew := (Kept.refl _ wr).drew
  exact ⟨F, G, m.kept kk (fun _ _ h => h), n.kept kk (fun _ _ h => h), i, j, d, k.drew, s⟩
theorem Both.later (h : Both B w wr g g2 t u) (hk : Kept (fun _ => False) wr w') : Both B w w' g g2 t u := by
  obtain ⟨F, G, m, n, i, j, d, k, s⟩ := h
  exact ⟨F, G, m.kept hk (fun _ _ h => h), n.kept hk (fun _ _ h => h), i, j, d, k.trans hk (fun _ _ h => h.elim), s⟩
theorem Both.kept (h : Both B w wr g g2 t u) : Kept B w wr := by
  obtain ⟨F, G, m, n, i, j, d, k, s⟩ := h
  exact k
theorem Both.postP {F G : Nat → Prop} {t' : Tab} (hI : t'.Inv) (hp : PPost wr F g t' w') (n : RMem wr G g2 u) (hJ : u.Inv) (d : ∀ k, F k → ¬ G k) (k : Kept B w wr) (s : ∀ k, (F k ∨ G k) → k < w.heap.size → B k) : Both B w w' g g2 t' u := by
  obtain ⟨F', m', k', s'⟩ := hp
  refine ⟨F', G, m', n.kept k' (fun i hg hf => d i hf hg), hI, hJ, fun i hf hg => ?_, k.trans k' (fun i hi hf => s i (.inl hf) hi), fun i hi hlt => ?_⟩
  · rcases s' i hf with h | h
    · exact d i h hg
    · have := n.lt i hg; omega
  · rcases hi with h | h
    · rcases s' i h with h | h
      · exact s i (.inl h) hlt
      · have := k.size; omega
    · exact s i (.inr h) hlt
theorem Both.postR {F G : Nat → Prop} {u' : Tab} (hJ : u'.Inv) (m : PMem wr F g t) (hp : RPost wr G g2 u' w') (hI : t.Inv) (d : ∀ k, F k → ¬ G k) (k : Kept B w wr) (s : ∀ k, (F k ∨ G k) → k < w.heap.size → B k) : Both B w w' g g2 t u' := by
  obtain ⟨G', n', k', s'⟩ := hp
  refine ⟨F, G', m.kept k' (fun i hf hg => d i hf hg), n', hI, hJ, fun i hf hg => ?_, k.trans k' (fun i hi hf => s i (.inr hf) hi), fun i hi hlt => ?_⟩
  · rcases s' i hg with h | h
    · exact d i hf h
    · have := m.lt i hf; omega
  · rcases hi with h | h
    · exact s i (.inl h) hlt
    · rcases s' i h with h | h
      · exact s i (.inr h) hlt
      · have := k.size; omega

/-- A call that begins with a block of its own. -/
theorem Both.enter (h : Both B w wr g g2 t u) (o : Obj) : ∃ B0, Both B0 (wr.alloc o) (wr.alloc o) g g2 t u ∧ ¬ B0 wr.heap.size ∧ ∀ w' t' u', Both B0 (wr.alloc o) w' g g2 t' u' → Both B w w' g g2 t' u' := by
  obtain ⟨F, G, m, n, i, j, d, k, s⟩ := h
  have kk : Kept (fun _ => False) wr (wr.alloc o) := (Kept.refl _ wr).alloc o
  refine ⟨fun k => F k ∨ G k, ⟨F, G, m.kept kk (fun _ _ h => h), n.kept kk (fun _ _ h => h), i, j, d, Kept.refl _ _, fun _ h _ => h⟩, fun hf => ?_, ?_⟩
  · rcases hf with h | h
    · have := m.lt _ h; omega
    · have := n.lt _ h; omega
  · rintro w' t' u' ⟨F', G', m', n', i', j', d', k', s'⟩
    have kq : Kept (fun k => F k ∨ G k) wr w' := (kk.mono (fun _ _ h => h.elim)).trans k' (fun _ _ h => h)
    refine ⟨F', G', m', n', i', j', d', k.trans kq (fun i hi hf => s i hf hi), fun i hf hlt => ?_⟩
    have := k.size
    exact s i (s' i hf (by simp; omega)) hlt

theorem b_create (h : Both B w wr g g2 t u) : Calls Try.prog 11 #[.pointer (some ⟨g, 0, none⟩)] wr fun e w' => e = .returned (.tuple #[.int .i64 (t.create.1.1 : Int), .int .i64 (t.create.1.2 : Int)]) ∧ Both B w w' g g2 t.create.2 u := by
  obtain ⟨F, G, m, n, i, j, d, k, s⟩ := h
  exact (p_create m).mono fun e w' ⟨he, hp⟩ => ⟨he, Both.postP i.create hp n j d k s⟩
theorem b_resume (h : Both B w wr g g2 t u) (id : Int) : Calls Try.prog 12 #[.pointer (some ⟨g, 0, none⟩), .int .i64 id] wr fun e w' => e = .returned (.int .i64 ((t.resume id).1 : Int)) ∧ Both B w w' g g2 (t.resume id).2 u := by
  obtain ⟨F, G, m, n, i, j, d, k, s⟩ := h
  exact (p_resume i m id).mono fun e w' ⟨he, hp⟩ => ⟨he, Both.postP (i.resume id) hp n j d k s⟩
theorem b_yield (h : Both B w wr g g2 t u) : Calls Try.prog 13 #[.pointer (some ⟨g, 0, none⟩)] wr fun e w' => e = .returned (.tuple #[.int .i64 (t.yld.1.1 : Int), .int .i64 (t.yld.1.2 : Int)]) ∧ Both B w w' g g2 t.yld.2 u := by
  obtain ⟨F, G, m, n, i, j, d, k, s⟩ := h
  exact (p_yield i m).mono fun e w' ⟨he, hp⟩ => ⟨he, Both.postP i.yld hp n j d k s⟩
theorem b_end (h : Both B w wr g g2 t u) (b : Bool) : Calls Try.prog 14 #[.pointer (some ⟨g, 0, none⟩), .bool b] wr fun e w' => e = .returned (.tuple #[.int .i64 ((t.fin b).1.1 : Int), .int .i64 ((t.fin b).1.2 : Int)]) ∧ Both B w w' g g2 (t.fin b).2 u := by
  obtain ⟨F, G, m, n, i, j, d, k, s⟩ := h
  exact (p_end i m b).mono fun e w' ⟨he, hp⟩ => ⟨he, Both.postP (i.fin b) hp n j d k s⟩
theorem b_close (h : Both B w wr g g2 t u) (id : Int) : Calls Try.prog 19 #[.pointer (some ⟨g, 0, none⟩), .int .i64 id] wr fun e w' => e = .returned (.int .i64 ((t.close id).1 : Int)) ∧ Both B w w' g g2 (t.close id).2 u := by
  obtain ⟨F, G, m, n, i, j, d, k, s⟩ := h
  exact (p_close i m id).mono fun e w' ⟨he, hp⟩ => ⟨he, Both.postP (i.close id) hp n j d k s⟩
theorem c_create (h : Both B w wr g g2 t u) : Calls Try.prog 28 #[.pointer (some ⟨g2, 0, none⟩)] wr fun e w' => e = .returned (.tuple #[.int .i64 (u.create.1.1 : Int), .int .i64 (u.create.1.2 : Int)]) ∧ Both B w w' g g2 t u.create.2 := by
  obtain ⟨F, G, m, n, i, j, d, k, s⟩ := h
  exact (q_create n).mono fun e w' ⟨he, hp⟩ => ⟨he, Both.postR j.create m hp i d k s⟩
theorem c_resume (h : Both B w wr g g2 t u) (id : Int) : Calls Try.prog 29 #[.pointer (some ⟨g2, 0, none⟩), .int .i64 id] wr fun e w' => e = .returned (.int .i64 ((u.resume id).1 : Int)) ∧ Both B w w' g g2 t (u.resume id).2 := by
  obtain ⟨F, G, m, n, i, j, d, k, s⟩ := h
  exact (q_resume j n id).mono fun e w' ⟨he, hp⟩ => ⟨he, Both.postR (j.resume id) m hp i d k s⟩
theorem c_yield (h : Both B w wr g g2 t u) : Calls Try.prog 30 #[.pointer (some ⟨g2, 0, none⟩)] wr fun e w' => e = .returned (.tuple #[.int .i64 (u.yld.1.1 : Int), .int .i64 (u.yld.1.2 : Int)]) ∧ Both B w w' g g2 t u.yld.2 := by
  obtain ⟨F, G, m, n, i, j, d, k, s⟩ := h
  exact (q_yield j n).mono fun e w' ⟨he, hp⟩ => ⟨he, Both.postR j.yld m hp i d k s⟩
theorem c_end (h : Both B w wr g g2 t u) (b : Bool) : Calls Try.prog 31 #[.pointer (some ⟨g2, 0, none⟩), .bool b] wr fun e w' => e = .returned (.tuple #[.int .i64 ((u.fin b).1.1 : Int), .int .i64 ((u.fin b).1.2 : Int)]) ∧ Both B w w' g g2 t (u.fin b).2 := by
  obtain ⟨F, G, m, n, i, j, d, k, s⟩ := h
  exact (q_end j n b).mono fun e w' ⟨he, hp⟩ => ⟨he, Both.postR (j.fin b) m hp i d k s⟩
theorem c_close (h : Both B w wr g g2 t u) (id : Int) : Calls Try.prog 32 #[.pointer (some ⟨g2, 0, none⟩), .int .i64 id] wr fun e w' => e = .returned (.int .i64 ((u.close id).1 : Int)) ∧ Both B w w' g g2 t (u.close id).2 := by
  obtain ⟨F, G, m, n, i, j, d, k, s⟩ := h
  exact (q_close j n id).mono fun e w' ⟨he, hp⟩ => ⟨he, Both.postR (j.close id) m hp i d k s⟩
end

end Go.Proofs.Ytmedmjngehkmoaa
