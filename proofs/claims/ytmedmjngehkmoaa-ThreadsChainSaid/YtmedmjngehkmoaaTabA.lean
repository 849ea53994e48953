/- What is proved here: the contract of each method of package threads over the plain table. Condition: the table lies in memory and is well formed. -/
import Derived.Test.YtmedmjngehkmoaaWalk2
import Derived.Test.YtmedmjngehkmoaaMem
namespace Go.Proofs.Ytmedmjngehkmoaa
open Go.RowKit
namespace W

set_option maxHeartbeats 400000 in
theorem close_range (g r len cap : Nat) (id : Int) (w : World) (h0 : w.cell? ⟨g, 0, none⟩ = some (.slice (some ⟨r, 0, none⟩) len cap)) (hi : id < 0 ∨ (len : Int) ≤ id) :
    Calls Try.prog 19 #[.pointer (some ⟨g, 0, none⟩), .int .i64 id] w fun e w' => e = .returned (.int .i64 6) ∧ w = w' := by
  have HI := Lib.hid hi
  clear hi
  go_enter Try.func19, Try.ntmps19
  go_wp2_with (go_at_call 26; refine (has_no g r len cap _ _ h0 HI.out).mono ?_; rintro e w' ⟨rfl, rfl⟩)
  go_ret
  exact ⟨rfl, rfl⟩

set_option maxHeartbeats 400000 in
theorem close_state (g r len cap : Nat) (id s : Nat) (w : World) (h0 : w.cell? ⟨g, 0, none⟩ = some (.slice (some ⟨r, 0, none⟩) len cap)) (hb : id < len)
    (hs : w.cell? ⟨r, id * 2, none⟩ = some (.int .i64 s)) (h3 : s = 1 ∨ s = 2) :
    Calls Try.prog 19 #[.pointer (some ⟨g, 0, none⟩), .int .i64 id] w fun e w' => e = .returned (.int .i64 16) ∧ w = w' := by
  rcases h3 with rfl | rfl
  all_goals
    go_enter Try.func19, Try.ntmps19
    go_wp2_with (go_at_call 26; refine (has_yes g r len cap _ _ h0 hb).mono ?_; rintro e w' ⟨rfl, rfl⟩)
    go_ret
    exact ⟨rfl, rfl⟩

set_option maxHeartbeats 400000 in
theorem close_dead (g r len cap : Nat) (id s : Nat) (w : World) (h0 : w.cell? ⟨g, 0, none⟩ = some (.slice (some ⟨r, 0, none⟩) len cap)) (hb : id < len)
    (hs : w.cell? ⟨r, id * 2, none⟩ = some (.int .i64 s)) (h3 : s = 3 ∨ s = 5) :
    Calls Try.prog 19 #[.pointer (some ⟨g, 0, none⟩), .int .i64 id] w fun e w' => e = .returned (.int .i64 19) ∧ w = w' := by
  rcases h3 with rfl | rfl
  all_goals
    go_enter Try.func19, Try.ntmps19
    go_wp2_with (go_at_call 26; refine (has_yes g r len cap _ _ h0 hb).mono ?_; rintro e w' ⟨rfl, rfl⟩)
    go_ret
    exact ⟨rfl, rfl⟩

set_option maxHeartbeats 800000 in
theorem close_ok (g r len cap : Nat) (id s : Nat) (b : Value) (w : World) (h0 : w.cell? ⟨g, 0, none⟩ = some (.slice (some ⟨r, 0, none⟩) len cap)) (hb : id < len)
    (hs : w.cell? ⟨r, id * 2, none⟩ = some (.int .i64 s)) (hs1 : w.cell? ⟨r, id * 2 + 1, none⟩ = some b) (fr : ∀ i, w.frozen? ⟨r, i, none⟩ = false) (h3 : s = 0 ∨ s = 4) :
    Calls Try.prog 19 #[.pointer (some ⟨g, 0, none⟩), .int .i64 id] w fun e w' => e = .returned (.int .i64 0) ∧ (w.setCell ⟨r, id * 2, none⟩ (.int .i64 5)).setCell ⟨r, id * 2 + 1, none⟩ (.int .i64 0) = w' := by
  rcases h3 with rfl | rfl
  all_goals
    go_enter Try.func19, Try.ntmps19
    go_wp2_with (go_at_call 26; refine (has_yes g r len cap _ _ h0 hb).mono ?_; rintro e w' ⟨rfl, rfl⟩)
    go_ret
    exact ⟨rfl, rfl⟩

end W

section
variable {w : World} {F : Nat → Prop} {g : Nat} {t : Tab}

theorem Tab.len_eq {l : List (Nat × Nat)} (hs : l.map (·.1) = t.sts) : l.length = t.sts.length := by rw [← hs]; simp

theorem p_new (w : World) : Calls Try.prog 10 #[] w fun e w' => e = .returned (.pointer (some ⟨w.heap.size + 1, 0, none⟩)) ∧ PPost w (fun _ => False) (w.heap.size + 1) Tab.init w' := by
  refine (W.new_any w).mono ?_
  rintro e w' ⟨rfl, rfl⟩
  refine ⟨rfl, fun k => k = w.heap.size ∨ k = w.heap.size + 1, ?_, ((Kept.refl _ w).alloc _).alloc _, fun k hk => by rcases hk with rfl | rfl; exact .inr (Nat.le_refl _); exact .inr (Nat.le_succ _)⟩
  refine ⟨w.heap.size, 1, [(1, 0)], .inr rfl, .inl rfl, fun k hk => by rcases hk with rfl | rfl <;> simp <;> omega, ⟨?_, ?_⟩, rfl, trivial⟩
  · have := Blk.new (w.alloc (.cells #[.int .i64 1, .int .i64 0] 50)) 53 #[.slice (some ⟨w.heap.size, 0, none⟩) 1 1, .int .i64 0, .int .i64 0]
    rw [World.size_alloc] at this
    exact this
  · have := (World.ownsRow_lit (base := 0) (e := 50) (size := 2) w #[.int .i64 1, .int .i64 0] 1 (Nat.zero_le _) (by decide) rfl).alloc (.cells #[.slice (some ⟨w.heap.size, 0, none⟩) 1 1, .int .i64 0, .int .i64 0] 53)
    exact this

theorem p_running (h : PMem w F g t) : Calls Try.prog 15 #[.pointer (some ⟨g, 0, none⟩)] w fun e w' => e = .returned (.int .i64 (t.now : Int)) ∧ w = w' := by
  obtain ⟨r, cap, l, _, _, _, raw, hs, _⟩ := h
  exact W.running_any g _ w raw.cell1

theorem p_count (h : PMem w F g t) : Calls Try.prog 25 #[.pointer (some ⟨g, 0, none⟩)] w fun e w' => e = .returned (.int .i64 (t.sts.length : Int)) ∧ w = w' := by
  obtain ⟨r, cap, l, _, _, _, raw, hs, _⟩ := h
  have h1 := W.count_any g _ _ _ w raw.cell0
  rw [Tab.len_eq hs] at h1
  exact h1

def Tab.status (t : Tab) (id : Int) : ByteArray := if id < 0 ∨ (t.sts.length : Int) ≤ id then ⟨#[]⟩ else W.statusOf (t.st id.toNat)

theorem p_status (h : PMem w F g t) (id : Int) : Calls Try.prog 18 #[.pointer (some ⟨g, 0, none⟩), .int .i64 id] w fun e w' => e = .returned (.string (t.status id)) ∧ w = w' := by
  obtain ⟨r, cap, l, _, _, _, raw, hs, _⟩ := h
  have hlen := Tab.len_eq hs
  unfold Tab.status
  by_cases hi : id < 0 ∨ (t.sts.length : Int) ≤ id
  · rw [if_pos hi]
    exact W.status_no g r _ cap id w raw.cell0 (by rw [hlen]; exact hi)
  · rw [if_neg hi]
    obtain ⟨i, rfl⟩ := Int.eq_ofNat_of_zero_le (by omega : 0 ≤ id)
    have hst := raw.st (i := i) (by omega)
    rw [hs] at hst
    exact W.status_yes g r _ cap i _ w raw.cell0 (by omega) hst

theorem p_create (h : PMem w F g t) : Calls Try.prog 11 #[.pointer (some ⟨g, 0, none⟩)] w fun e w' => e = .returned (.tuple #[.int .i64 (t.create.1.1 : Int), .int .i64 (t.create.1.2 : Int)]) ∧ PPost w F g t.create.2 w' := by
  have hsame := h.same
  obtain ⟨r, cap, l, fg, fr, lt, raw, hs, hl⟩ := h
  have hlen := Tab.len_eq hs
  unfold Tab.create
  by_cases hf : 65536 ≤ t.sts.length
  · rw [if_pos hf]
    refine (W.create_full g r _ cap w raw.cell0 (by omega)).mono ?_
    rintro e w' ⟨rfl, rfl⟩
    exact ⟨rfl, hsame⟩
  · rw [if_neg hf]
    refine (W.create_ok g r _ cap _ _ _ w raw.blk raw.row (by omega) raw.ne).mono ?_
    rintro e w' ⟨rfl, r', cap', hb', hr', hk, hat⟩
    refine ⟨by rw [hlen]; rfl, fun k => F k ∨ w.heap.size ≤ k ∧ k < w'.heap.size, ?_, hk.mono (fun k _ hk => by rcases hk with rfl | rfl; exact fg; exact fr), fun k hk => by rcases hk with h | h; exact .inl h; exact .inr h.1⟩
    have hlt : r' < w'.heap.size := (hr'.lt r' rfl).2
    refine ⟨r', cap', l ++ [(0, 0)], .inl fg, ?_, fun k hk => ?_, ⟨by rw [List.length_append]; exact hb', by rw [flat_append, List.length_append]; exact hr'⟩, by simp [hs], ?_⟩
    · rcases hat with rfl | h
      · exact .inl fr
      · exact .inr ⟨h, hlt⟩
    · rcases hk with h | h
      · exact Nat.lt_of_lt_of_le (lt k h) hk.size
      · exact h.2
    · rw [List.map_append]; exact Tab.links_append hl _

theorem p_resume (hI : t.Inv) (h : PMem w F g t) (id : Int) : Calls Try.prog 12 #[.pointer (some ⟨g, 0, none⟩), .int .i64 id] w fun e w' => e = .returned (.int .i64 ((t.resume id).1 : Int)) ∧ PPost w F g (t.resume id).2 w' := by
  have hsame := h.same
  obtain ⟨r, cap, l, fg, fr, lt, raw, hs, hl⟩ := h
  have hlen := Tab.len_eq hs
  unfold Tab.resume
  by_cases hr : id < 0 ∨ (t.sts.length : Int) ≤ id
  · rw [if_pos hr]
    refine (W.resume_range g r _ cap id w raw.cell0 (by rw [hlen]; exact hr)).mono ?_
    rintro e w' ⟨rfl, rfl⟩
    exact ⟨rfl, hsame⟩
  rw [if_neg hr]
  obtain ⟨i, rfl⟩ := Int.eq_ofNat_of_zero_le (by omega : 0 ≤ id)
  have hi : i < l.length := by omega
  have hst := raw.st hi
  rw [hs] at hst
  simp only [Int.toNat_natCast]
  by_cases h3 : 3 ≤ t.st i
  · rw [if_pos h3]
    refine (W.resume_dead g r _ cap i _ w raw.cell0 hi hst h3).mono ?_
    rintro e w' ⟨rfl, rfl⟩
    exact ⟨rfl, hsame⟩
  rw [if_neg h3]
  by_cases h0 : t.st i ≠ 0
  · rw [if_pos h0]
    refine (W.resume_state g r _ cap i _ w raw.cell0 hi hst (Nat.lt_of_not_le h3) h0).mono ?_
    rintro e w' ⟨rfl, rfl⟩
    exact ⟨rfl, hsame⟩
  rw [if_neg h0]
  have h0' : t.st i = 0 := by omega
  have hst0 : w.cell? ⟨r, i * 2, none⟩ = some (.int .i64 0) := by rw [hst, show t.sts[i]?.getD 0 = t.st i from rfl, h0']; rfl
  by_cases h9 : 9 ≤ t.chain.length
  · rw [if_pos h9]
    refine (W.resume_full g r _ cap i _ w raw.cell0 hi hst0 raw.cell2 (by omega)).mono ?_
    rintro e w' ⟨rfl, rfl⟩
    exact ⟨rfl, hsame⟩
  rw [if_neg h9]
  have hn := hI.not_chain (i := i) (by omega) (by omega) (by omega)
  obtain ⟨a, c, ec⟩ := hI.some_
  have hnow : t.now < l.length := by rw [hlen]; exact hI.now_lt
  have hne : t.now ≠ i := by intro e; apply hn; rw [ec, ← e]; simp [Tab.now, ec]
  refine (W.resume_ok g r _ cap t.now i (t.chain.length - 1) _ _ w raw.cell0 raw.cell1 raw.cell2 (raw.blk.frozen 1) (raw.blk.frozen 2) raw.fr hi hnow hne raw.ne (raw.st hnow) hst0 (raw.by_ hi) (by omega)).mono ?_
  rintro e w' ⟨rfl, rfl⟩
  have hraw := (((((raw.set0 t.now 2).set0 i 1).set1 i t.now).setNow i).setDepth (t.chain.length - 1 + 1)).drew.drew
  have hk : Kept F w (((((w.setCell ⟨r, t.now * 2, none⟩ (.int .i64 2)).setCell ⟨r, i * 2, none⟩ (.int .i64 1)).setCell ⟨r, i * 2 + 1, none⟩ (.int .i64 t.now)).setCell ⟨g, 1, none⟩ (.int .i64 i)).setCell ⟨g, 2, none⟩ (.int .i64 (((t.chain.length - 1 : Nat) : Int) + 1))).drew.drew :=
    ((((((((Kept.refl F w).setCell (fun _ => fr) _).setCell (fun _ => fr) _).setCell (fun _ => fr) _).setCell (fun _ => fg) _).setCell (fun _ => fg) _).drew).drew)
  refine ⟨rfl, F, ⟨r, cap, set1 (set0 (set0 l t.now 2) i 1) i t.now, fg, fr, fun k hk' => Nat.lt_of_lt_of_le (lt k hk') hk.size, ?_, ?_, ?_⟩, hk, fun k hk => .inl hk⟩
  · have e1 : Tab.now ⟨(t.sts.set t.now 2).set i 1, i :: t.chain⟩ = i := rfl
    have e2 : (i :: t.chain).length - 1 = t.chain.length - 1 + 1 := by rw [ec]; simp
    rw [e1]
    simp only [e2]
    exact hraw
  · rw [set1_fst, set0_fst, set0_fst, hs]
  · rw [set1_snd, set0_snd, set0_snd]
    refine Tab.links_cons (Tab.links_set hl hn) hI.now_eq ?_
    rw [List.getElem?_set_self (by simp; omega)]

theorem p_back (hI : t.Inv) (h : PMem w F g t) (hn : t.now ≠ 0) (s : Nat) :
    Calls Try.prog 27 #[.pointer (some ⟨g, 0, none⟩), .int .i64 (s : Int)] w fun e w' => e = .returned (.int .i64 ((t.back s).now : Int)) ∧ PPost w F g (t.back s) w' := by
  obtain ⟨r, cap, l, fg, fr, lt, raw, hs, hl⟩ := h
  have hlen := Tab.len_eq hs
  obtain ⟨a, b, c, ec, ha⟩ := hI.two hn
  subst ha
  have hnow : t.now < l.length := by rw [hlen]; exact hI.now_lt
  have hb : b < l.length := by rw [hlen]; exact hI.lt b (by simp [ec])
  have hnd := hI.nodup
  rw [ec] at hnd hl
  have hne : t.now ≠ b := by intro e; rw [← e] at hnd; simp at hnd
  have hby := raw.by_ hnow
  rw [hl.1] at hby
  have hsh := hI.short
  rw [ec] at hsh
  simp at hsh
  refine (W.back_any g r _ cap t.now b (t.chain.length - 1) s _ _ w raw.cell0 raw.cell1 raw.cell2 (raw.blk.frozen 1) (raw.blk.frozen 2) raw.fr hnow hb hne raw.ne (raw.st hnow) hby (raw.st hb) (by rw [ec]; simp) (by rw [ec]; simp; omega)).mono ?_
  rintro e w' ⟨rfl, rfl⟩
  have hraw := (((((raw.setNow b).set0 t.now s).set1 t.now 0).set0 b 1).setDepth (t.chain.length - 1 - 1)).drew
  have ed : ((t.chain.length - 1 : Nat) : Int) - 1 = ((t.chain.length - 1 - 1 : Nat) : Int) := by rw [ec]; simp
  rw [ed]
  have hk : Kept F w (((((w.setCell ⟨g, 1, none⟩ (.int .i64 b)).setCell ⟨r, t.now * 2, none⟩ (.int .i64 s)).setCell ⟨r, t.now * 2 + 1, none⟩ (.int .i64 0)).setCell ⟨r, b * 2, none⟩ (.int .i64 1)).setCell ⟨g, 2, none⟩ (.int .i64 ((t.chain.length - 1 - 1 : Nat) : Int))).drew :=
    (((((((Kept.refl F w).setCell (fun _ => fg) _).setCell (fun _ => fr) _).setCell (fun _ => fr) _).setCell (fun _ => fr) _).setCell (fun _ => fg) _).drew)
  have eb : t.back s = ⟨(t.sts.set t.now s).set b 1, b :: c⟩ := by
    unfold Tab.back
    rw [show t.chain.tail = b :: c by rw [ec]; rfl]
    rfl
  have en : (t.back s).now = b := by rw [eb]; rfl
  refine ⟨by rw [en], F, ⟨r, cap, set0 (set1 (set0 l t.now s) t.now 0) b 1, fg, fr, fun k hk' => Nat.lt_of_lt_of_le (lt k hk') hk.size, ?_, ?_, ?_⟩, hk, fun k hk => .inl hk⟩
  · rw [en, show (t.back s).chain.length - 1 = t.chain.length - 1 - 1 by rw [eb, ec]; simp]
    exact hraw
  · rw [set0_fst, set1_fst, set0_fst, hs, eb]
  · rw [set0_snd, set1_snd, set0_snd, eb]
    exact Tab.links_set hl.2 (List.nodup_cons.1 hnd).1

end
end Go.Proofs.Ytmedmjngehkmoaa
