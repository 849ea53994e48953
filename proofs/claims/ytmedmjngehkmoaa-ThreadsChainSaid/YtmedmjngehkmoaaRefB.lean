/- What is proved here: what Chain, Resume, leave and Close of the reference's coroutine table do to memory, one theorem a way. Conditions: the cells that are read are given. -/
import Derived.Test.YtmedmjngehkmoaaRefA
namespace Go.Proofs.Ytmedmjngehkmoaa
open Go.RowKit
namespace R

set_option maxHeartbeats 1000000 in
theorem chain_walk (g r len cap : Nat) (c : List Nat) (w : World) (h0 : w.cell? ⟨g, 1, none⟩ = some (.slice (some ⟨r, 0, none⟩) len cap))
    (n0 : Nat) (h1 : w.cell? ⟨g, 2, none⟩ = some (.int .i64 (n0 : Int))) (hlt : g < w.heap.size) (hrlt : r < w.heap.size)
    (HC : Hid (∃ h : 0 < c.length, c[0] = n0)) (HL : Hid (c.length ≤ 9)) (HN : Hid (∀ k, (hk : k < c.length) → c[k] ≠ 0 → k + 1 < c.length ∧ ∀ h : k + 1 < c.length, c[k] < len ∧ w.cell? ⟨r, c[k], none⟩ = some (.int .i64 (c[k + 1] : Int))))
    (HZ : Hid (∀ k, (hk : k < c.length) → c[k] = 0 → k + 1 = c.length)) :
    Calls Try.prog 36 #[.pointer (some ⟨g, 0, none⟩)] w fun e w' => ∃ v, e = .returned v ∧ Fresh w c v w' := by
  obtain ⟨i0, hi0, hz0, hz1, hz2⟩ := info_parts Try.info3
  go_enter Try.func36, Try.ntmps36
  go_wp2
  go_loopw [3, 4] (fun v i wr => ∃ k, ∃ hk : k < c.length, i = .int .i64 (c[k] : Int) ∧ Fresh w (c.take (k + 1)) v wr) (fun v _ _ => c.length - lenOf v)
  case atStart =>
    obtain ⟨hp, he⟩ := HC.out
    refine ⟨0, hp, by rw [he], ?_⟩
    have : c.take (0 + 1) = [n0] := by
      match c, hp, he with
      | a :: c, _, he => simp at he; simp [he]
    rw [this]
    exact Fresh.start w n0
  case round =>
    obtain ⟨k, hk, rfl, hf⟩ := hrel
    have hl := HL.out
    have htl : (c.take (k + 1)).length = k + 1 := by simp; omega
    by_cases hz : c[k] = 0
    · have he := HZ.out k hk hz
      have htk : c.take (k + 1) = c := List.take_of_length_le (by omega)
      rw [htk] at hf
      have HF := Lib.hid hf
      rw [hz]
      clear hf htk he hz htl hl hk
      go_wp2
      go_ret
      exact ⟨_, rfl, HF.out⟩
    · obtain ⟨hk1, hn⟩ := HN.out k hk hz
      obtain ⟨hclt, hcell⟩ := hn hk1
      have htake : c.take (k + 1 + 1) = c.take (k + 1) ++ [c[k + 1]] := by rw [List.take_succ_eq_append_getElem (by omega)]
      obtain ⟨r', cap', rfl, hown, hle, hkept⟩ := hf
      rw [htl] at hown
      have hnz : ((c[k] : Int) != 0) = true := by simp; exact hz
      have c0 := (hkept.cell (p := ⟨g, 1, none⟩) hlt (by simp)).trans h0
      have c1 := (hkept.cell (p := ⟨r, c[k], none⟩) hrlt (by simp)).trans hcell
      have HT := Lib.hid htake
      have HTL := Lib.hid htl
      have hle9 : k + 1 < 9 := by omega
      have hb63 : k + 1 + 1 ≤ maxLen := by unfold maxLen; omega
      have HB := Lib.hid hb63
      rw [htl]
      generalize ea : c[k] = a at *
      generalize eb : c[k + 1] = b at *
      have EB := Lib.hid eb
      clear htake htl hz hn hcell hb63 ea eb h0 h1 hl
      go_wp2_with (at_builtin; refine wpList_append_row _ rfl _ _ 37 rfl 3 i0 _ 1 8 Try.underlying37 hi0 hz0 hz1 hz2 rfl (by decide) _ _ _ rfl (hown.alloc _) ⟨wr.heap.size, 0, none⟩ 1 1 [.int .i64 (b : Int)] rfl (by decide) rfl (cell_one_new _ _ _) (one_oneCell b) HB.out ?c4 ?_)
      case c4 => omega
      intro r2 cap2 w1 hown' hgrow hat
      have hf : Fresh w (c.take (k + 1 + 1)) (.slice (some ⟨r2, 0, none⟩) (k + 1 + 1) cap2) w1 := by
        have hh := Fresh.push (w := w) (wr := wr) (w1 := w1) (xs := c.take (k + 1)) (r := r') (cap := cap') (r' := r2) (cap' := cap2) (b := b) hle hkept
        rw [HTL.out] at hh
        rw [HT.out]
        exact hh hown' hgrow hat
      have HF := Lib.hid hf
      clear hf hown' hgrow hat hown hkept c0 c1
      go_wp2
      go_roundw
      case rel => exact ⟨k + 1, hk1, by rw [EB.out], HF.out⟩
      case measure => simp [lenOf]; omega

set_option maxHeartbeats 400000 in
theorem resume_range (g : Nat) (a : Option Addr) (len cap : Nat) (id : Int) (w : World) (h0 : w.cell? ⟨g, 0, none⟩ = some (.slice a len cap)) (hi : id < 0 ∨ (len : Int) ≤ id) :
    Calls Try.prog 29 #[.pointer (some ⟨g, 0, none⟩), .int .i64 id] w fun e w' => e = .returned (.int .i64 6) ∧ w = w' := by
  by_cases h : id < 0
  · have hd : decide (id < 0) = true := by simp; omega
    clear hi h
    go_enter Try.func29, Try.ntmps29
    go_wp2
    go_ret
    exact ⟨rfl, rfl⟩
  · have hd : decide (id < 0) = false := by simp; omega
    have hd' : decide ((len : Int) ≤ id) = true := by simp; omega
    clear hi h
    go_enter Try.func29, Try.ntmps29
    go_wp2
    go_ret
    exact ⟨rfl, rfl⟩

set_option maxHeartbeats 400000 in
theorem resume_dead (g r len cap : Nat) (id s : Nat) (w : World) (h0 : w.cell? ⟨g, 0, none⟩ = some (.slice (some ⟨r, 0, none⟩) len cap)) (hb : id < len)
    (hs : w.cell? ⟨r, id, none⟩ = some (.int .i64 s)) (h3 : 3 ≤ s) :
    Calls Try.prog 29 #[.pointer (some ⟨g, 0, none⟩), .int .i64 id] w fun e w' => e = .returned (.int .i64 19) ∧ w = w' := by
  have hd : decide ((3 : Int) ≤ (s : Int)) = true := by simp; omega
  clear h3
  go_enter Try.func29, Try.ntmps29
  go_wp2
  go_ret
  exact ⟨rfl, rfl⟩

set_option maxHeartbeats 400000 in
theorem resume_state (g r len cap : Nat) (id s : Nat) (w : World) (h0 : w.cell? ⟨g, 0, none⟩ = some (.slice (some ⟨r, 0, none⟩) len cap)) (hb : id < len)
    (hs : w.cell? ⟨r, id, none⟩ = some (.int .i64 s)) (h3 : s < 3) (h1 : s ≠ 0) :
    Calls Try.prog 29 #[.pointer (some ⟨g, 0, none⟩), .int .i64 id] w fun e w' => e = .returned (.int .i64 16) ∧ w = w' := by
  have hd : decide ((3 : Int) ≤ (s : Int)) = false := by simp; omega
  have hd1 : ((s : Int) != 0) = true := by simp; omega
  clear h3 h1
  go_enter Try.func29, Try.ntmps29
  go_wp2
  go_ret
  exact ⟨rfl, rfl⟩

/-- What Chain leaves, of which only the length matters. -/
def LenOnly (w : World) (n : Nat) (e : Ending) (w' : World) : Prop := ∃ a cap, e = .returned (.slice a n cap) ∧ Kept (fun _ => False) w w'

set_option maxHeartbeats 400000 in
theorem resume_full (g r len cap : Nat) (id n : Nat) (w : World) (h0 : w.cell? ⟨g, 0, none⟩ = some (.slice (some ⟨r, 0, none⟩) len cap)) (hb : id < len)
    (hs : w.cell? ⟨r, id, none⟩ = some (.int .i64 0)) (HC : Hid (Calls Try.prog 36 #[.pointer (some ⟨g, 0, none⟩)] w (LenOnly w n))) (hd : 8 < n) :
    Calls Try.prog 29 #[.pointer (some ⟨g, 0, none⟩), .int .i64 id] w fun e w' => e = .returned (.int .i64 17) ∧ Kept (fun _ => False) w w' := by
  have hd1 : decide ((8 : Int) < (n : Int)) = true := by simp; omega
  clear hd
  go_enter Try.func29, Try.ntmps29
  go_wp2_with fail
  refine HC.out.mono ?_
  rintro e w' ⟨a, cap', rfl, hk⟩
  have HK := Lib.hid hk
  clear hk HC
  go_wp2
  go_ret
  exact ⟨rfl, HK.out⟩

def Resumed (g r1 r2 : Nat) (now id : Nat) (w w' : World) : Prop :=
  ∃ w1, Kept (fun _ => False) w w1 ∧ ((((w1.setCell ⟨r1, now, none⟩ (.int .i64 2)).setCell ⟨r1, id, none⟩ (.int .i64 1)).setCell ⟨r2, id, none⟩ (.int .i64 now)).setCell ⟨g, 2, none⟩ (.int .i64 id)).drew.drew = w'

set_option maxHeartbeats 1000000 in
theorem resume_ok (g r1 r2 len c1 c2 : Nat) (now id n : Nat) (s0 b1 : Value) (w : World) (h0 : w.cell? ⟨g, 0, none⟩ = some (.slice (some ⟨r1, 0, none⟩) len c1)) (h1 : w.cell? ⟨g, 1, none⟩ = some (.slice (some ⟨r2, 0, none⟩) len c2))
    (h2 : w.cell? ⟨g, 2, none⟩ = some (.int .i64 now)) (hgl : g < w.heap.size) (hr1 : r1 < w.heap.size) (hr2 : r2 < w.heap.size)
    (f2 : w.frozen? ⟨g, 2, none⟩ = false) (fr1 : ∀ i, w.frozen? ⟨r1, i, none⟩ = false) (fr2 : ∀ i, w.frozen? ⟨r2, i, none⟩ = false)
    (hb : id < len) (hnow : now < len) (hne : now ≠ id) (hg1 : g ≠ r1) (hg2 : g ≠ r2) (h12 : r1 ≠ r2)
    (d0 : w.cell? ⟨r1, now, none⟩ = some s0) (d1 : w.cell? ⟨r1, id, none⟩ = some (.int .i64 0)) (d2 : w.cell? ⟨r2, id, none⟩ = some b1)
    (HC : Hid (Calls Try.prog 36 #[.pointer (some ⟨g, 0, none⟩)] w (LenOnly w n))) (hd : n ≤ 8) :
    Calls Try.prog 29 #[.pointer (some ⟨g, 0, none⟩), .int .i64 id] w fun e w' => e = .returned (.int .i64 0) ∧ Resumed g r1 r2 now id w w' := by
  have hd1 : decide ((8 : Int) < (n : Int)) = false := by simp; omega
  go_enter Try.func29, Try.ntmps29
  go_wp2_with fail
  refine HC.out.mono ?_
  rintro e w1 ⟨a, cap', rfl, hk⟩
  have fz : ∀ p : Addr, p.block < w.heap.size → w1.frozen? p = w.frozen? p := fun p hp => World.frozen?_of_block (hk.block p.block hp (by simp))
  have e0 := (hk.cell (p := ⟨g, 0, none⟩) hgl (by simp)).trans h0
  have e1 := (hk.cell (p := ⟨g, 1, none⟩) hgl (by simp)).trans h1
  have e2 := (hk.cell (p := ⟨g, 2, none⟩) hgl (by simp)).trans h2
  have e3 := (hk.cell (p := ⟨r1, now, none⟩) hr1 (by simp)).trans d0
  have e4 := (hk.cell (p := ⟨r1, id, none⟩) hr1 (by simp)).trans d1
  have e5 := (hk.cell (p := ⟨r2, id, none⟩) hr2 (by simp)).trans d2
  have g2 := (fz ⟨g, 2, none⟩ hgl).trans f2
  have gr1 := fun i => (fz ⟨r1, i, none⟩ hr1).trans (fr1 i)
  have gr2 := fun i => (fz ⟨r2, i, none⟩ hr2).trans (fr2 i)
  have HK := Lib.hid hk
  clear hk HC h0 h1 h2 d0 d1 d2 f2 fr1 fr2 fz
  go_wp2
  go_region
  go_wp2
  go_region
  go_wp2
  go_ret
  exact ⟨rfl, w1, HK.out, rfl⟩

set_option maxHeartbeats 1000000 in
theorem leave_any (g r1 r2 len c1 c2 : Nat) (now by' s : Nat) (s0 s1 : Value) (w : World) (h0 : w.cell? ⟨g, 0, none⟩ = some (.slice (some ⟨r1, 0, none⟩) len c1)) (h1 : w.cell? ⟨g, 1, none⟩ = some (.slice (some ⟨r2, 0, none⟩) len c2))
    (h2 : w.cell? ⟨g, 2, none⟩ = some (.int .i64 now)) (f2 : w.frozen? ⟨g, 2, none⟩ = false) (fr1 : ∀ i, w.frozen? ⟨r1, i, none⟩ = false)
    (hnow : now < len) (hby : by' < len) (hne : now ≠ by') (hg1 : g ≠ r1) (hg2 : g ≠ r2) (h12 : r1 ≠ r2)
    (d0 : w.cell? ⟨r1, now, none⟩ = some s0) (d1 : w.cell? ⟨r2, now, none⟩ = some (.int .i64 by')) (d2 : w.cell? ⟨r1, by', none⟩ = some s1) :
    Calls Try.prog 37 #[.pointer (some ⟨g, 0, none⟩), .int .i64 s] w fun e w' => e = .returned (.int .i64 by') ∧
      (((w.setCell ⟨r1, now, none⟩ (.int .i64 s)).setCell ⟨r1, by', none⟩ (.int .i64 1)).setCell ⟨g, 2, none⟩ (.int .i64 by')).drew.drew = w' := by
  go_enter Try.func37, Try.ntmps37
  go_wp2
  go_region
  go_wp2
  go_region
  go_wp2
  go_ret
  exact ⟨rfl, rfl⟩

set_option maxHeartbeats 400000 in
theorem close_range (g : Nat) (a : Option Addr) (len cap : Nat) (id : Int) (w : World) (h0 : w.cell? ⟨g, 0, none⟩ = some (.slice a len cap)) (hi : id < 0 ∨ (len : Int) ≤ id) :
    Calls Try.prog 32 #[.pointer (some ⟨g, 0, none⟩), .int .i64 id] w fun e w' => e = .returned (.int .i64 6) ∧ w = w' := by
  by_cases h : id < 0
  · have hd : decide (id < 0) = true := by simp; omega
    clear hi h
    go_enter Try.func32, Try.ntmps32
    go_wp2
    go_ret
    exact ⟨rfl, rfl⟩
  · have hd : decide (id < 0) = false := by simp; omega
    have hd' : decide ((len : Int) ≤ id) = true := by simp; omega
    clear hi h
    go_enter Try.func32, Try.ntmps32
    go_wp2
    go_ret
    exact ⟨rfl, rfl⟩

set_option maxHeartbeats 400000 in
theorem close_state (g r len cap : Nat) (id s : Nat) (w : World) (h0 : w.cell? ⟨g, 0, none⟩ = some (.slice (some ⟨r, 0, none⟩) len cap)) (hb : id < len)
    (hs : w.cell? ⟨r, id, none⟩ = some (.int .i64 s)) (h3 : s = 1 ∨ s = 2) :
    Calls Try.prog 32 #[.pointer (some ⟨g, 0, none⟩), .int .i64 id] w fun e w' => e = .returned (.int .i64 16) ∧ w = w' := by
  rcases h3 with rfl | rfl
  all_goals
    go_enter Try.func32, Try.ntmps32
    go_wp2
    go_ret
    exact ⟨rfl, rfl⟩

set_option maxHeartbeats 400000 in
theorem close_dead (g r len cap : Nat) (id : Nat) (w : World) (h0 : w.cell? ⟨g, 0, none⟩ = some (.slice (some ⟨r, 0, none⟩) len cap)) (hb : id < len)
    (hs : w.cell? ⟨r, id, none⟩ = some (.int .i64 3)) :
    Calls Try.prog 32 #[.pointer (some ⟨g, 0, none⟩), .int .i64 id] w fun e w' => e = .returned (.int .i64 19) ∧ w = w' := by
  go_enter Try.func32, Try.ntmps32
  go_wp2
  go_ret
  exact ⟨rfl, rfl⟩

set_option maxHeartbeats 800000 in
theorem close_ok (g r len cap : Nat) (id s : Nat) (w : World) (h0 : w.cell? ⟨g, 0, none⟩ = some (.slice (some ⟨r, 0, none⟩) len cap)) (hb : id < len)
    (hs : w.cell? ⟨r, id, none⟩ = some (.int .i64 s)) (fr : ∀ i, w.frozen? ⟨r, i, none⟩ = false) (h3 : s = 0 ∨ s = 4) :
    Calls Try.prog 32 #[.pointer (some ⟨g, 0, none⟩), .int .i64 id] w fun e w' => e = .returned (.int .i64 0) ∧ w.setCell ⟨r, id, none⟩ (.int .i64 3) = w' := by
  rcases h3 with rfl | rfl
  all_goals
    go_enter Try.func32, Try.ntmps32
    go_wp2
    go_ret
    exact ⟨rfl, rfl⟩

end R
end Go.Proofs.Ytmedmjngehkmoaa
