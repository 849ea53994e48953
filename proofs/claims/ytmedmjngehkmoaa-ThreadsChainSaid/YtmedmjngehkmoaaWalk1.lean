/- What is proved here: what each function of the coroutine table of package threads does to memory, one theorem a way. Conditions: the cells that are read are given. -/
import Derived.Test.YtmedmjngehkmoaaBase
import Derived.BigGuardPart
import Derived.BigRegion
namespace Go.Proofs.Ytmedmjngehkmoaa
open Go.RowKit

theorem Try.info50 : (Try.prog.info? 50).map (fun i => (i.zero, i.size, i.bytes)) = some (some (.agg #[.int .i64 0, .int .i64 0]), 2, 16) := by kernel_rfl
theorem Try.info3 : (Try.prog.info? 3).map (fun i => (i.zero, i.size, i.bytes)) = some (some (.int .i64 0), 1, 8) := by kernel_rfl

namespace W

set_option maxHeartbeats 400000 in
theorem new_any (w : World) :
    Calls Try.prog 10 #[] w fun e w' => e = .returned (.pointer (some ⟨w.heap.size + 1, 0, none⟩)) ∧ (w.alloc (.cells #[.int .i64 1, .int .i64 0] 50)).alloc (.cells #[.slice (some ⟨w.heap.size, 0, none⟩) 1 1, .int .i64 0, .int .i64 0] 53) = w' := by
  go_enter Try.func10, Try.ntmps10
  go_wp2
  go_ret
  exact ⟨rfl, rfl⟩

set_option maxHeartbeats 400000 in
theorem running_any (g : Nat) (now : Int) (w : World) (h1 : w.cell? ⟨g, 1, none⟩ = some (.int .i64 now)) :
    Calls Try.prog 15 #[.pointer (some ⟨g, 0, none⟩)] w fun e w' => e = .returned (.int .i64 now) ∧ w = w' := by
  go_enter Try.func15, Try.ntmps15
  go_wp2
  go_ret
  exact ⟨rfl, rfl⟩

set_option maxHeartbeats 400000 in
theorem count_any (g : Nat) (a : Option Addr) (len cap : Nat) (w : World) (h0 : w.cell? ⟨g, 0, none⟩ = some (.slice a len cap)) :
    Calls Try.prog 25 #[.pointer (some ⟨g, 0, none⟩)] w fun e w' => e = .returned (.int .i64 len) ∧ w = w' := by
  go_enter Try.func25, Try.ntmps25
  go_wp2
  go_ret
  exact ⟨rfl, rfl⟩

set_option maxHeartbeats 400000 in
theorem has_yes (g r len cap : Nat) (i : Nat) (w : World) (h0 : w.cell? ⟨g, 0, none⟩ = some (.slice (some ⟨r, 0, none⟩) len cap)) (hi : i < len) :
    Calls Try.prog 26 #[.pointer (some ⟨g, 0, none⟩), .int .i64 i] w fun e w' => e = .returned (.bool true) ∧ w = w' := by
  go_enter Try.func26, Try.ntmps26
  go_wp2
  go_ret
  simp

set_option maxHeartbeats 400000 in
theorem has_no (g r len cap : Nat) (id : Int) (w : World) (h0 : w.cell? ⟨g, 0, none⟩ = some (.slice (some ⟨r, 0, none⟩) len cap)) (hi : id < 0 ∨ (len : Int) ≤ id) :
    Calls Try.prog 26 #[.pointer (some ⟨g, 0, none⟩), .int .i64 id] w fun e w' => e = .returned (.bool false) ∧ w = w' := by
  by_cases h : id < 0
  · clear hi
    go_enter Try.func26, Try.ntmps26
    go_wp2
    go_ret
    simp
  · have hi : (len : Int) ≤ id := by omega
    have h' : 0 ≤ id := by omega
    clear h
    go_enter Try.func26, Try.ntmps26
    go_wp2
    go_ret
    simp
    omega

def statusOf (s : Nat) : ByteArray := if s = 0 then ⟨#[115, 117, 115, 112, 101, 110, 100, 101, 100]⟩ else if s = 1 then ⟨#[114, 117, 110, 110, 105, 110, 103]⟩ else if s = 2 then ⟨#[110, 111, 114, 109, 97, 108]⟩ else ⟨#[100, 101, 97, 100]⟩

set_option maxHeartbeats 400000 in
theorem status_yes (g r len cap : Nat) (i s : Nat) (w : World) (h0 : w.cell? ⟨g, 0, none⟩ = some (.slice (some ⟨r, 0, none⟩) len cap)) (hb : i < len)
    (hs : w.cell? ⟨r, i * 2, none⟩ = some (.int .i64 s)) :
    Calls Try.prog 18 #[.pointer (some ⟨g, 0, none⟩), .int .i64 i] w fun e w' => e = .returned (.string (statusOf s)) ∧ w = w' := by
  by_cases s0 : s = 0
  · subst s0
    go_enter Try.func18, Try.ntmps18
    go_wp2_with (go_at_call 26; refine (has_yes g r len cap _ _ h0 hb).mono ?_; rintro e w' ⟨rfl, rfl⟩)
    go_ret
    exact ⟨rfl, rfl⟩
  by_cases s1 : s = 1
  · subst s1
    clear s0
    go_enter Try.func18, Try.ntmps18
    go_wp2_with (go_at_call 26; refine (has_yes g r len cap _ _ h0 hb).mono ?_; rintro e w' ⟨rfl, rfl⟩)
    go_ret
    exact ⟨rfl, rfl⟩
  by_cases s2 : s = 2
  · subst s2
    clear s0 s1
    go_enter Try.func18, Try.ntmps18
    go_wp2_with (go_at_call 26; refine (has_yes g r len cap _ _ h0 hb).mono ?_; rintro e w' ⟨rfl, rfl⟩)
    go_ret
    exact ⟨rfl, rfl⟩
  have e0 : ((s : Int) == 0) = false := by simp; omega
  have e1 : ((s : Int) == 1) = false := by simp; omega
  have e2 : ((s : Int) == 2) = false := by simp; omega
  have hv : statusOf s = ⟨#[100, 101, 97, 100]⟩ := by simp [statusOf, s0, s1, s2]
  have HV := Lib.hid hv
  clear hv s0 s1 s2
  go_enter Try.func18, Try.ntmps18
  go_wp2_with (go_at_call 26; refine (has_yes g r len cap _ _ h0 hb).mono ?_; rintro e w' ⟨rfl, rfl⟩)
  go_ret
  rw [HV.out]
  exact ⟨rfl, rfl⟩

set_option maxHeartbeats 400000 in
theorem status_no (g r len cap : Nat) (id : Int) (w : World) (h0 : w.cell? ⟨g, 0, none⟩ = some (.slice (some ⟨r, 0, none⟩) len cap)) (hi : id < 0 ∨ (len : Int) ≤ id) :
    Calls Try.prog 18 #[.pointer (some ⟨g, 0, none⟩), .int .i64 id] w fun e w' => e = .returned (.string ⟨#[]⟩) ∧ w = w' := by
  have HI := Lib.hid hi
  clear hi
  go_enter Try.func18, Try.ntmps18
  go_wp2_with (go_at_call 26; refine (has_no g r len cap _ _ h0 HI.out).mono ?_; rintro e w' ⟨rfl, rfl⟩)
  go_ret
  exact ⟨rfl, rfl⟩

set_option maxHeartbeats 400000 in
theorem create_full (g r len cap : Nat) (w : World) (h0 : w.cell? ⟨g, 0, none⟩ = some (.slice (some ⟨r, 0, none⟩) len cap)) (hl : 65536 ≤ len) :
    Calls Try.prog 11 #[.pointer (some ⟨g, 0, none⟩)] w fun e w' => e = .returned (.tuple #[.int .i64 0, .int .i64 17]) ∧ w = w' := by
  have hlb : decide ((65536 : Int) ≤ (len : Int)) = true := by simp; omega
  clear hl
  go_enter Try.func11, Try.ntmps11
  go_wp2
  go_ret2
  exact ⟨rfl, rfl⟩

def Created (g r len : Nat) (v1 v2 : Value) (xs : List Value) (w w' : World) : Prop :=
  ∃ r' cap', Blk w' g 53 #[.slice (some ⟨r', 0, none⟩) (len + 1) cap', v1, v2] ∧
      w'.ownsRow 0 50 2 (.slice (some ⟨r', 0, none⟩) (len + 1) cap') (len + 1) (xs ++ [.int .i64 0, .int .i64 0]) ∧ Kept (fun k => k = g ∨ k = r) w w' ∧ (r' = r ∨ w.heap.size ≤ r')

set_option maxHeartbeats 400000 in
theorem create_ok (g r len cap : Nat) (v1 v2 : Value) (xs : List Value) (w : World) (hb : Blk w g 53 #[.slice (some ⟨r, 0, none⟩) len cap, v1, v2])
    (hown : w.ownsRow 0 50 2 (.slice (some ⟨r, 0, none⟩) len cap) len xs) (hl : len < 65536) (hgr : g ≠ r) :
    Calls Try.prog 11 #[.pointer (some ⟨g, 0, none⟩)] w fun e w' => e = .returned (.tuple #[.int .i64 len, .int .i64 0]) ∧ Created g r len v1 v2 xs w w' := by
  obtain ⟨i0, hi0, hz0, hz1, hz2⟩ := info_parts Try.info50
  have h0 := hb.cell 0
  simp at h0
  have HB := Lib.hid hb
  have hlb : decide ((65536 : Int) ≤ (len : Int)) = false := by simp; omega
  have HL := Lib.hid hl
  clear hb hl
  have hl63 : len + 1 ≤ maxLen := by have := HL.out; unfold maxLen; omega
  have HM := Lib.hid hl63
  clear hl63
  go_enter Try.func11, Try.ntmps11
  go_wp2_with (at_builtin; refine wpList_append_row _ rfl _ _ 51 rfl 50 i0 _ 2 16 Try.underlying51 hi0 hz0 hz1 hz2 rfl (by decide) _ _ _ rfl (hown.alloc _) ⟨w.heap.size, 0, none⟩ 1 1 [.int .i64 0, .int .i64 0] rfl (by decide) rfl (cells_two_new _ _ _ _) (two_oneCell 0 0) HM.out ?c4 ?_)
  case c4 => have := HL.out; omega
  intro r' cap' w1 hown' hgrow hat
  have hb1 : Blk w1 g 53 #[.slice (some ⟨r, 0, none⟩) len cap, v1, v2] := (HB.out.alloc _).grown hgrow (by simp [Value.ownBlock]; exact hgr)
  have k1 : w1.cell? ⟨g, 0, none⟩ = some (.slice (some ⟨r, 0, none⟩) len cap) := hb1.cell 0
  have k2 : w1.frozen? ⟨g, 0, none⟩ = false := hb1.frozen 0
  have HK : Hid (Kept (fun k => k = g ∨ k = r) w w1) := ((Kept.refl _ w).alloc _).grown hgrow (by intro k hk _; simp [Value.ownBlock] at hk; exact .inr hk.symm)
  have HA : Hid (r' = r ∨ w.heap.size ≤ r') := by
    show r' = r ∨ w.heap.size ≤ r'
    rcases hat with h | h
    · left; simp [Value.ownBlock] at h; exact h.symm
    · right; omega
  have HO := Lib.hid hown'
  have HB1 := Lib.hid hb1
  have hrg : g ≠ r' := by
    rcases HA.out with h | h
    · rw [h]; exact hgr
    · have := HB.out.lt; omega
  clear hat hgrow hown hown' h0 hb1
  have hbd : len + 1 ≤ 9223372036854775807 := by have := HL.out; omega
  go_wp2
  go_ret2
  refine ⟨?_, r', cap', ?_, ?_, HK.out.setCell (fun _ => .inl rfl) _, HA.out⟩
  · simp
  · exact HB1.out.set_ 0 _
  · exact ownsRow_setCell_other HO.out (by simp [Value.ownBlock]; exact fun h => hrg h.symm) _

end W
end Go.Proofs.Ytmedmjngehkmoaa
