/- What is proved here: what each function of the reference's coroutine table does to memory, one theorem a way. Conditions: the cells that are read are given. -/
import Derived.Test.YtmedmjngehkmoaaTabB
import Derived.Deep.DeepCutAuto
namespace Go.Proofs.Ytmedmjngehkmoaa
open Go.RowKit
namespace R

set_option maxHeartbeats 400000 in
theorem new_any (w : World) :
    Calls Try.prog 23 #[] w fun e w' => e = .returned (.pointer (some ⟨w.heap.size + 1 + 1, 0, none⟩)) ∧ ((w.alloc (.cells #[.int .i64 1] 3)).alloc (.cells #[.int .i64 0] 3)).alloc (.cells #[.slice (some ⟨w.heap.size, 0, none⟩) 1 1, .slice (some ⟨w.heap.size + 1, 0, none⟩) 1 1, .int .i64 0] 57) = w' := by
  go_enter Try.func23, Try.ntmps23
  go_wp2
  go_ret
  exact ⟨rfl, rfl⟩

set_option maxHeartbeats 400000 in
theorem running_any (g : Nat) (now : Int) (w : World) (h1 : w.cell? ⟨g, 2, none⟩ = some (.int .i64 now)) :
    Calls Try.prog 35 #[.pointer (some ⟨g, 0, none⟩)] w fun e w' => e = .returned (.int .i64 now) ∧ w = w' := by
  go_enter Try.func35, Try.ntmps35
  go_wp2
  go_ret
  exact ⟨rfl, rfl⟩

set_option maxHeartbeats 400000 in
theorem count_any (g : Nat) (a : Option Addr) (len cap : Nat) (w : World) (h0 : w.cell? ⟨g, 0, none⟩ = some (.slice a len cap)) :
    Calls Try.prog 33 #[.pointer (some ⟨g, 0, none⟩)] w fun e w' => e = .returned (.int .i64 len) ∧ w = w' := by
  go_enter Try.func33, Try.ntmps33
  go_wp2
  go_ret
  exact ⟨rfl, rfl⟩

set_option maxHeartbeats 400000 in
theorem status_yes (g r len cap : Nat) (i s : Nat) (w : World) (h0 : w.cell? ⟨g, 0, none⟩ = some (.slice (some ⟨r, 0, none⟩) len cap)) (hb : i < len)
    (hs : w.cell? ⟨r, i, none⟩ = some (.int .i64 s)) :
    Calls Try.prog 34 #[.pointer (some ⟨g, 0, none⟩), .int .i64 i] w fun e w' => e = .returned (.string (W.statusOf s)) ∧ w = w' := by
  by_cases s0 : s = 0
  · subst s0
    go_enter Try.func34, Try.ntmps34
    go_wp2
    go_ret
    exact ⟨rfl, rfl⟩
  by_cases s1 : s = 1
  · subst s1
    clear s0
    go_enter Try.func34, Try.ntmps34
    go_wp2
    go_ret
    exact ⟨rfl, rfl⟩
  by_cases s2 : s = 2
  · subst s2
    clear s0 s1
    go_enter Try.func34, Try.ntmps34
    go_wp2
    go_ret
    exact ⟨rfl, rfl⟩
  have e0 : ((s : Int) == 0) = false := by simp; omega
  have e1 : ((s : Int) == 1) = false := by simp; omega
  have e2 : ((s : Int) == 2) = false := by simp; omega
  have hv : W.statusOf s = ⟨#[100, 101, 97, 100]⟩ := by simp [W.statusOf, s0, s1, s2]
  have HV := Lib.hid hv
  clear hv s0 s1 s2
  go_enter Try.func34, Try.ntmps34
  go_wp2
  go_ret
  rw [HV.out]
  exact ⟨rfl, rfl⟩

set_option maxHeartbeats 400000 in
theorem status_no (g r len cap : Nat) (id : Int) (w : World) (h0 : w.cell? ⟨g, 0, none⟩ = some (.slice (some ⟨r, 0, none⟩) len cap)) (hi : id < 0 ∨ (len : Int) ≤ id) :
    Calls Try.prog 34 #[.pointer (some ⟨g, 0, none⟩), .int .i64 id] w fun e w' => e = .returned (.string ⟨#[]⟩) ∧ w = w' := by
  by_cases h : id < 0
  · have hd : decide (id < 0) = true := by simp; omega
    clear hi h
    go_enter Try.func34, Try.ntmps34
    go_wp2
    go_ret
    exact ⟨rfl, rfl⟩
  · have hd : decide (id < 0) = false := by simp; omega
    have hd' : decide ((len : Int) ≤ id) = true := by simp; omega
    clear hi h
    go_enter Try.func34, Try.ntmps34
    go_wp2
    go_ret
    exact ⟨rfl, rfl⟩

set_option maxHeartbeats 400000 in
theorem create_full (g : Nat) (a : Option Addr) (len cap : Nat) (w : World) (h0 : w.cell? ⟨g, 0, none⟩ = some (.slice a len cap)) (hl : 65536 ≤ len) :
    Calls Try.prog 28 #[.pointer (some ⟨g, 0, none⟩)] w fun e w' => e = .returned (.tuple #[.int .i64 0, .int .i64 17]) ∧ w = w' := by
  have hlb : decide ((65536 : Int) ≤ (len : Int)) = true := by simp; omega
  clear hl
  go_enter Try.func28, Try.ntmps28
  go_wp2
  go_ret2
  exact ⟨rfl, rfl⟩

def Created (g r1 r2 len : Nat) (xs ys : List Value) (v : Value) (w w' : World) : Prop :=
  ∃ r1' c1' r2' c2', Blk w' g 57 #[.slice (some ⟨r1', 0, none⟩) (len + 1) c1', .slice (some ⟨r2', 0, none⟩) (len + 1) c2', v] ∧
    w'.ownsRow 0 3 1 (.slice (some ⟨r1', 0, none⟩) (len + 1) c1') (len + 1) (xs ++ [.int .i64 0]) ∧ w'.ownsRow 0 3 1 (.slice (some ⟨r2', 0, none⟩) (len + 1) c2') (len + 1) (ys ++ [.int .i64 0]) ∧
    Kept (fun k => k = g ∨ k = r1 ∨ k = r2) w w' ∧ (r1' = r1 ∨ w.heap.size ≤ r1') ∧ (r2' = r2 ∨ w.heap.size ≤ r2') ∧ r1' ≠ r2'

set_option maxHeartbeats 1000000 in
theorem create_ok (g r1 r2 len c1 c2 : Nat) (v : Value) (xs ys : List Value) (w : World) (hb : Blk w g 57 #[.slice (some ⟨r1, 0, none⟩) len c1, .slice (some ⟨r2, 0, none⟩) len c2, v])
    (hown1 : w.ownsRow 0 3 1 (.slice (some ⟨r1, 0, none⟩) len c1) len xs) (hown2 : w.ownsRow 0 3 1 (.slice (some ⟨r2, 0, none⟩) len c2) len ys) (hl : len < 65536) (hg1 : g ≠ r1) (hg2 : g ≠ r2) (h12 : r1 ≠ r2) :
    Calls Try.prog 28 #[.pointer (some ⟨g, 0, none⟩)] w fun e w' => e = .returned (.tuple #[.int .i64 len, .int .i64 0]) ∧ Created g r1 r2 len xs ys v w w' := by
  obtain ⟨i0, hi0, hz0, hz1, hz2⟩ := info_parts Try.info3
  have h0 : w.cell? ⟨g, 0, none⟩ = some (.slice (some ⟨r1, 0, none⟩) len c1) := hb.cell 0
  have hr1 := (hown1.lt r1 rfl).2
  have hr2 := (hown2.lt r2 rfl).2
  have hglt := hb.lt
  have HB := Lib.hid hb
  have hlb : decide ((65536 : Int) ≤ (len : Int)) = false := by simp; omega
  have HL := Lib.hid hl
  clear hb hl
  have hl63 : len + 1 ≤ maxLen := by have := HL.out; unfold maxLen; omega
  have HM := Lib.hid hl63
  have H2 := Lib.hid hown2
  clear hl63 hown2
  go_enter Try.func28, Try.ntmps28
  go_wp2_with (at_builtin; refine wpList_append_row _ rfl (.tmp 16) (.tmp 17) 37 rfl 3 i0 _ 1 8 Try.underlying37 hi0 hz0 hz1 hz2 rfl (by decide) _ _ _ rfl (hown1.alloc _) ⟨w.heap.size, 0, none⟩ 1 1 [.int .i64 0] rfl (by decide) rfl (cell_one_new _ _ _) (one_oneCell 0) HM.out ?c4 ?_)
  case c4 => have := HL.out; omega
  intro r1' c1' w1 hown1' hgrow1 hat1
  have hb1 : Blk w1 g 57 #[.slice (some ⟨r1, 0, none⟩) len c1, .slice (some ⟨r2, 0, none⟩) len c2, v] := (HB.out.alloc _).grown hgrow1 (by simp [Value.ownBlock]; exact hg1)
  have k1 : w1.cell? ⟨g, 0, none⟩ = some (.slice (some ⟨r1, 0, none⟩) len c1) := hb1.cell 0
  have k1' : w1.cell? ⟨g, 1, none⟩ = some (.slice (some ⟨r2, 0, none⟩) len c2) := hb1.cell 1
  have k2 : w1.frozen? ⟨g, 0, none⟩ = false := hb1.frozen 0
  have hk1 : Kept (fun k => k = g ∨ k = r1 ∨ k = r2) w w1 := ((Kept.refl _ w).alloc _).grown hgrow1 (by intro k hk _; simp [Value.ownBlock] at hk; exact .inr (.inl hk.symm))
  have hs1 := hk1.size
  have HA1 : Hid (r1' = r1 ∨ w.heap.size ≤ r1') := by
    show r1' = r1 ∨ w.heap.size ≤ r1'
    rcases hat1 with h | h
    · left; simp [Value.ownBlock] at h; exact h.symm
    · right; omega
  have hg1' : g ≠ r1' := by
    rcases HA1.out with h | h
    · rw [h]; exact hg1
    · omega
  have h12' : r1' ≠ r2 := by
    rcases HA1.out with h | h
    · rw [h]; exact h12
    · omega
  have h2w : w1.ownsRow 0 3 1 (.slice (some ⟨r2, 0, none⟩) len c2) len ys := (H2.out.alloc _).kept hgrow1 (.inr (by simp [Value.ownBlock]; exact fun h => h12 h.symm))
  have HK1 := Lib.hid hk1
  have HB1 := Lib.hid hb1
  have HS1 := Lib.hid hs1
  have HO1 := Lib.hid hown1'
  have HO2 := Lib.hid h2w
  have hl1 : r1' < w1.heap.size := (hown1'.lt r1' rfl).2
  clear hat1 hgrow1 hown1 hown1' h0 hb1 hk1 hs1 h2w H2
  have hbd : len + 1 ≤ 9223372036854775807 := by have := HL.out; omega
  go_upto_region 6 with (fail)
  obtain ⟨W1, hW1⟩ : ∃ W, W = w1.setCell ⟨g, 0, none⟩ (.slice (some ⟨r1', 0, none⟩) (len + 1) c1') := ⟨_, rfl⟩
  have ho2 : W1.ownsRow 0 3 1 (.slice (some ⟨r2, 0, none⟩) len c2) len ys := by rw [hW1]; exact ownsRow_setCell_other HO2.out (by simp [Value.ownBlock]; exact fun h => hg2 h.symm) _
  have ho1 : W1.ownsRow 0 3 1 (.slice (some ⟨r1', 0, none⟩) (len + 1) c1') (len + 1) (xs ++ [.int .i64 0]) := by rw [hW1]; exact ownsRow_setCell_other HO1.out (by simp [Value.ownBlock]; exact fun h => hg1' h.symm) _
  have hb2 : Blk W1 g 57 #[.slice (some ⟨r1', 0, none⟩) (len + 1) c1', .slice (some ⟨r2, 0, none⟩) len c2, v] := by rw [hW1]; exact HB1.out.set_ 0 _
  have hk2 : Kept (fun k => k = g ∨ k = r1 ∨ k = r2) w W1 := by rw [hW1]; exact HK1.out.setCell (fun _ => .inl rfl) _
  rw [← hW1]
  have q1 : W1.cell? ⟨g, 1, none⟩ = some (.slice (some ⟨r2, 0, none⟩) len c2) := hb2.cell 1
  have HO1' := Lib.hid ho1
  have HB2 := Lib.hid hb2
  have HK2 := Lib.hid hk2
  have hr1' : r1' < W1.heap.size := (ho1.lt r1' rfl).2
  clear hW1 ho1 hb2 hk2 HK1 HB1 HS1 HO1 HO2 k1 k1' k2 hl1
  go_wp2_with (at_builtin; refine wpList_append_row _ rfl (.tmp 25) (.tmp 26) 37 rfl 3 i0 _ 1 8 Try.underlying37 hi0 hz0 hz1 hz2 rfl (by decide) _ _ _ rfl (ho2.alloc _) ⟨W1.heap.size, 0, none⟩ 1 1 [.int .i64 0] rfl (by decide) rfl (cell_one_new _ _ _) (one_oneCell 0) HM.out ?c5 ?_)
  case c5 => have := HL.out; omega
  intro r2' c2' w2 hown2' hgrow2 hat2
  have hb3 : Blk w2 g 57 #[.slice (some ⟨r1', 0, none⟩) (len + 1) c1', .slice (some ⟨r2, 0, none⟩) len c2, v] := (HB2.out.alloc _).grown hgrow2 (by simp [Value.ownBlock]; exact hg2)
  have p0 : w2.cell? ⟨g, 0, none⟩ = some (.slice (some ⟨r1', 0, none⟩) (len + 1) c1') := hb3.cell 0
  have p1 : w2.cell? ⟨g, 1, none⟩ = some (.slice (some ⟨r2, 0, none⟩) len c2) := hb3.cell 1
  have p2 : w2.frozen? ⟨g, 1, none⟩ = false := hb3.frozen 1
  have ho1 : w2.ownsRow 0 3 1 (.slice (some ⟨r1', 0, none⟩) (len + 1) c1') (len + 1) (xs ++ [.int .i64 0]) := (HO1'.out.alloc _).kept hgrow2 (.inr (by simp [Value.ownBlock]; exact h12'))
  have hk3 : Kept (fun k => k = g ∨ k = r1 ∨ k = r2) w w2 := (HK2.out.alloc _).grown hgrow2 (by intro k hk _; simp [Value.ownBlock] at hk; exact .inr (.inr hk.symm))
  have HA2 : Hid ((r2' = r2 ∨ w.heap.size ≤ r2') ∧ r1' ≠ r2' ∧ g ≠ r2') := by
    show (r2' = r2 ∨ w.heap.size ≤ r2') ∧ r1' ≠ r2' ∧ g ≠ r2'
    have := HK2.out.size
    rcases hat2 with h | h
    · simp [Value.ownBlock] at h; subst h; exact ⟨.inl rfl, h12', hg2⟩
    · exact ⟨.inr (by omega), by omega, by omega⟩
  have HO1 := Lib.hid ho1
  have HO2 := Lib.hid hown2'
  have HB3 := Lib.hid hb3
  have HK3 := Lib.hid hk3
  clear ho1 hown2' hb3 hk3 hat2 hgrow2 q1 ho2 HK2 HB2 HO1'
  go_wp2
  go_ret2
  obtain ⟨ha, hb, hc⟩ := HA2.out
  refine ⟨by simp, r1', c1', r2', c2', HB3.out.set_ 1 _, ?_, ?_, HK3.out.setCell (fun _ => .inl rfl) _, HA1.out, ha, hb⟩
  · exact ownsRow_setCell_other HO1.out (by simp [Value.ownBlock]; exact fun h => hg1' h.symm) _
  · exact ownsRow_setCell_other HO2.out (by simp [Value.ownBlock]; exact fun h => hc h.symm) _

end R
end Go.Proofs.Ytmedmjngehkmoaa
