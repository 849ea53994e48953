/- What is proved here: what Resume, back, Yield, End and Close of the coroutine table do to memory, one theorem a way. Conditions: the cells that are read are given. -/
import Derived.Test.YtmedmjngehkmoaaWalk1
namespace Go.Proofs.Ytmedmjngehkmoaa
open Go.RowKit
namespace W

set_option maxHeartbeats 400000 in
theorem resume_range (g r len cap : Nat) (id : Int) (w : World) (h0 : w.cell? ⟨g, 0, none⟩ = some (.slice (some ⟨r, 0, none⟩) len cap)) (hi : id < 0 ∨ (len : Int) ≤ id) :
    Calls Try.prog 12 #[.pointer (some ⟨g, 0, none⟩), .int .i64 id] w fun e w' => e = .returned (.int .i64 6) ∧ w = w' := by
  have HI := Lib.hid hi
  clear hi
  go_enter Try.func12, Try.ntmps12
  go_wp2_with (go_at_call 26; refine (has_no g r len cap _ _ h0 HI.out).mono ?_; rintro e w' ⟨rfl, rfl⟩)
  go_ret
  exact ⟨rfl, rfl⟩

set_option maxHeartbeats 400000 in
theorem resume_dead (g r len cap : Nat) (id s : Nat) (w : World) (h0 : w.cell? ⟨g, 0, none⟩ = some (.slice (some ⟨r, 0, none⟩) len cap)) (hb : id < len)
    (hs : w.cell? ⟨r, id * 2, none⟩ = some (.int .i64 s)) (h3 : 3 ≤ s) :
    Calls Try.prog 12 #[.pointer (some ⟨g, 0, none⟩), .int .i64 id] w fun e w' => e = .returned (.int .i64 19) ∧ w = w' := by
  have hd : decide ((3 : Int) ≤ (s : Int)) = true := by simp; omega
  clear h3
  go_enter Try.func12, Try.ntmps12
  go_wp2_with (go_at_call 26; refine (has_yes g r len cap _ _ h0 hb).mono ?_; rintro e w' ⟨rfl, rfl⟩)
  go_ret
  exact ⟨rfl, rfl⟩

set_option maxHeartbeats 400000 in
theorem resume_state (g r len cap : Nat) (id s : Nat) (w : World) (h0 : w.cell? ⟨g, 0, none⟩ = some (.slice (some ⟨r, 0, none⟩) len cap)) (hb : id < len)
    (hs : w.cell? ⟨r, id * 2, none⟩ = some (.int .i64 s)) (h3 : s < 3) (h1 : s ≠ 0) :
    Calls Try.prog 12 #[.pointer (some ⟨g, 0, none⟩), .int .i64 id] w fun e w' => e = .returned (.int .i64 16) ∧ w = w' := by
  have hd : decide ((3 : Int) ≤ (s : Int)) = false := by simp; omega
  have hd1 : ((s : Int) != 0) = true := by simp; omega
  clear h3 h1
  go_enter Try.func12, Try.ntmps12
  go_wp2_with (go_at_call 26; refine (has_yes g r len cap _ _ h0 hb).mono ?_; rintro e w' ⟨rfl, rfl⟩)
  go_ret
  exact ⟨rfl, rfl⟩

set_option maxHeartbeats 400000 in
theorem resume_full (g r len cap : Nat) (id depth : Nat) (w : World) (h0 : w.cell? ⟨g, 0, none⟩ = some (.slice (some ⟨r, 0, none⟩) len cap)) (hb : id < len)
    (hs : w.cell? ⟨r, id * 2, none⟩ = some (.int .i64 0)) (h2 : w.cell? ⟨g, 2, none⟩ = some (.int .i64 depth)) (hd : 8 ≤ depth) :
    Calls Try.prog 12 #[.pointer (some ⟨g, 0, none⟩), .int .i64 id] w fun e w' => e = .returned (.int .i64 17) ∧ w = w' := by
  have hd1 : decide ((8 : Int) ≤ (depth : Int)) = true := by simp; omega
  clear hd
  go_enter Try.func12, Try.ntmps12
  go_wp2_with (go_at_call 26; refine (has_yes g r len cap _ _ h0 hb).mono ?_; rintro e w' ⟨rfl, rfl⟩)
  go_ret
  exact ⟨rfl, rfl⟩

set_option maxHeartbeats 1000000 in
theorem resume_ok (g r len cap : Nat) (now id depth : Nat) (s0 b1 : Value) (w : World) (h0 : w.cell? ⟨g, 0, none⟩ = some (.slice (some ⟨r, 0, none⟩) len cap))
    (h1 : w.cell? ⟨g, 1, none⟩ = some (.int .i64 now)) (h2 : w.cell? ⟨g, 2, none⟩ = some (.int .i64 depth))
    (f1 : w.frozen? ⟨g, 1, none⟩ = false) (f2 : w.frozen? ⟨g, 2, none⟩ = false) (fr : ∀ i, w.frozen? ⟨r, i, none⟩ = false)
    (hb : id < len) (hnow : now < len) (hne : now ≠ id) (hgr : g ≠ r)
    (c0 : w.cell? ⟨r, now * 2, none⟩ = some s0) (c1 : w.cell? ⟨r, id * 2, none⟩ = some (.int .i64 0)) (c2 : w.cell? ⟨r, id * 2 + 1, none⟩ = some b1) (hd : depth < 8) :
    Calls Try.prog 12 #[.pointer (some ⟨g, 0, none⟩), .int .i64 id] w fun e w' => e = .returned (.int .i64 0) ∧
      (((((w.setCell ⟨r, now * 2, none⟩ (.int .i64 2)).setCell ⟨r, id * 2, none⟩ (.int .i64 1)).setCell ⟨r, id * 2 + 1, none⟩ (.int .i64 now)).setCell ⟨g, 1, none⟩ (.int .i64 id)).setCell ⟨g, 2, none⟩ (.int .i64 ((depth : Int) + 1))).drew.drew = w' := by
  have hd1 : decide ((8 : Int) ≤ (depth : Int)) = false := by simp; omega
  go_enter Try.func12, Try.ntmps12
  go_wp2_with (go_at_call 26; refine (has_yes g r len cap _ _ h0 hb).mono ?_; rintro e w' ⟨rfl, rfl⟩)
  go_region
  go_wp2
  go_region
  go_wp2
  go_ret
  exact ⟨rfl, rfl⟩

set_option maxHeartbeats 1000000 in
theorem back_any (g r len cap : Nat) (now by' depth s : Nat) (s0 s1 : Value) (w : World) (h0 : w.cell? ⟨g, 0, none⟩ = some (.slice (some ⟨r, 0, none⟩) len cap))
    (h1 : w.cell? ⟨g, 1, none⟩ = some (.int .i64 now)) (h2 : w.cell? ⟨g, 2, none⟩ = some (.int .i64 depth))
    (f1 : w.frozen? ⟨g, 1, none⟩ = false) (f2 : w.frozen? ⟨g, 2, none⟩ = false) (fr : ∀ i, w.frozen? ⟨r, i, none⟩ = false)
    (hnow : now < len) (hby : by' < len) (hne : now ≠ by') (hgr : g ≠ r)
    (c0 : w.cell? ⟨r, now * 2, none⟩ = some s0) (c1 : w.cell? ⟨r, now * 2 + 1, none⟩ = some (.int .i64 by')) (c2 : w.cell? ⟨r, by' * 2, none⟩ = some s1) (hd : 0 < depth) (hd8 : depth ≤ 8) :
    Calls Try.prog 27 #[.pointer (some ⟨g, 0, none⟩), .int .i64 s] w fun e w' => e = .returned (.int .i64 by') ∧
      (((((w.setCell ⟨g, 1, none⟩ (.int .i64 by')).setCell ⟨r, now * 2, none⟩ (.int .i64 s)).setCell ⟨r, now * 2 + 1, none⟩ (.int .i64 0)).setCell ⟨r, by' * 2, none⟩ (.int .i64 1)).setCell ⟨g, 2, none⟩ (.int .i64 ((depth : Int) - 1))).drew = w' := by
  go_enter Try.func27, Try.ntmps27
  go_wp2
  go_region
  go_wp2
  go_ret
  exact ⟨rfl, rfl⟩

end W
end Go.Proofs.Ytmedmjngehkmoaa
