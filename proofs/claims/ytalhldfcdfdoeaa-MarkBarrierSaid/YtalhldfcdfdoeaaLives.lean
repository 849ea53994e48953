/- What is proved here: the law's small case holds: lives returns true. No condition. -/
import Derived.Test.YtalhldfcdfdoeaaUse
namespace Go.Proofs.Ytalhldfcdfdoeaa
open Go.RowKit

def liveOs (s : Nat) : List Ob := [⟨1, 0, 0, some ⟨s, 0, none⟩, 2, [2, 3], none, 0, []⟩, ⟨2, 0, 0, none, 0, [], none, 0, []⟩, ⟨3, 0, 0, none, 0, [], none, 0, []⟩]
def liveMk : Mk := ⟨[⟨1, [2, 3], [], 2⟩, ⟨2, [], [], 1⟩, ⟨3, [], [], 1⟩], [2, 3]⟩
theorem live_steps (s : Nat) : (mkNew (liveOs s) [1]).steps 1 = liveMk := by rfl
theorem live_chk (s : Nat) : chk 0 (liveOs s) = true := by simp [liveOs, chk, okOb]

def liveCells (s : Nat) : Array Value := #[.int .i64 1, .int .i64 0, .int .i64 0, .slice (some ⟨s, 0, none⟩) 2 2, .slice none 0 0, .int .i64 2, .int .i64 0, .int .i64 0, .slice none 0 0, .slice none 0 0, .int .i64 3, .int .i64 0, .int .i64 0, .slice none 0 0, .slice none 0 0]

theorem live_world (w V : World) (hV : V = (((w.alloc (.cells #[.int .i64 2, .int .i64 3] 3)).alloc (.cells (liveCells w.heap.size) 39)).alloc (.cells #[.int .i64 1] 3)).alloc (.cells #[.slice (some ⟨w.heap.size + 1, 0, none⟩) 3 3, .slice (some ⟨w.heap.size + 1 + 1, 0, none⟩) 1 1] 25)) :
    Objs V (some ⟨w.heap.size + 1, 0, none⟩) 3 (liveOs w.heap.size) ∧ (∀ o, o ∈ liveOs w.heap.size → ObOk V o) ∧ Src V (some ⟨w.heap.size + 1 + 1, 0, none⟩) 1 [1] ∧ Kept (fun _ => False) w V := by
  have k0 : Kept (fun _ => False) (w.alloc (.cells #[.int .i64 2, .int .i64 3] 3)) V := by rw [hV]; exact (((Kept.refl _ _).alloc _).alloc _).alloc _
  have k1 : Kept (fun _ => False) ((w.alloc (.cells #[.int .i64 2, .int .i64 3] 3)).alloc (.cells (liveCells w.heap.size) 39)) V := by rw [hV]; exact ((Kept.refl _ _).alloc _).alloc _
  have k2 : Kept (fun _ => False) (((w.alloc (.cells #[.int .i64 2, .int .i64 3] 3)).alloc (.cells (liveCells w.heap.size) 39)).alloc (.cells #[.int .i64 1] 3)) V := by rw [hV]; exact (Kept.refl _ _).alloc _
  have r0 : Src V (some ⟨w.heap.size, 0, none⟩) 2 [2, 3] := ((Row.new w [2, 3] (by show 2 ≤ maxLen; decide)).src).kept k0 (fun _ _ h => h)
  have b1 : Blk V (w.heap.size + 1) 39 (liveCells w.heap.size) := by
    have := (Blk.new (w.alloc (.cells #[.int .i64 2, .int .i64 3] 3)) 39 (liveCells w.heap.size)).kept k1 (by simp)
    rw [World.size_alloc] at this
    exact this
  have r2 : Src V (some ⟨w.heap.size + 1 + 1, 0, none⟩) 1 [1] := by
    have := ((Row.new ((w.alloc (.cells #[.int .i64 2, .int .i64 3] 3)).alloc (.cells (liveCells w.heap.size) 39)) [1] (by show 1 ≤ maxLen; decide)).src).kept k2 (fun _ _ h => h)
    rw [World.size_alloc, World.size_alloc] at this
    exact this
  refine ⟨⟨rfl, fun _ => ⟨w.heap.size + 1, 0, rfl, b1.lt, ?_⟩⟩, ?_, r2, by rw [hV]; exact ((((Kept.refl _ w).alloc _).alloc _).alloc _).alloc _⟩
  · intro i o ho
    match i with
    | 0 => simp [liveOs] at ho; subst ho; exact ⟨b1.cell 0, b1.cell 1, b1.cell 2, b1.cell 3, b1.cell 4⟩
    | 1 => simp [liveOs] at ho; subst ho; exact ⟨b1.cell 5, b1.cell 6, b1.cell 7, b1.cell 8, b1.cell 9⟩
    | 2 => simp [liveOs] at ho; subst ho; exact ⟨b1.cell 10, b1.cell 11, b1.cell 12, b1.cell 13, b1.cell 14⟩
    | n + 3 => simp [liveOs] at ho
  · have e0 : W.Ents V none 0 [] := ⟨rfl, fun h => by omega⟩
    have s0 : Src V none 0 [] := ⟨rfl, fun h => by omega⟩
    have i1 : I64 1 := by unfold I64; decide
    have i2 : I64 2 := by unfold I64; decide
    have i3 : I64 3 := by unfold I64; decide
    intro o ho
    simp [liveOs] at ho
    rcases ho with rfl | rfl | rfl
    · exact ⟨r0, by simp, e0, i1, by simp [W.flatKV]; exact ⟨i2, i3⟩, by simp⟩
    · exact ⟨s0, by simp, e0, i2, by simp [W.flatKV], by simp⟩
    · exact ⟨s0, by simp, e0, i3, by simp [W.flatKV], by simp⟩

set_option maxHeartbeats 4000000 in
theorem lives_any (w : World) : Calls Try.prog 9 #[] w fun e w' => e = .returned (.bool true) ∧ Kept (fun _ => False) w w' := by
  obtain ⟨V, hV⟩ : ∃ V, V = (((w.alloc (.cells #[.int .i64 2, .int .i64 3] 3)).alloc (.cells (liveCells w.heap.size) 39)).alloc (.cells #[.int .i64 1] 3)).alloc (.cells #[.slice (some ⟨w.heap.size + 1, 0, none⟩) 3 3, .slice (some ⟨w.heap.size + 1 + 1, 0, none⟩) 1 1] 25) := ⟨_, rfl⟩
  obtain ⟨q1, q2, q3, q4⟩ := live_world w V hV
  have hF := mkNew_few q2 (by simp [liveOs]) [1]
  have hc := new_ok (some ⟨w.heap.size + 1, 0, none⟩) (some ⟨w.heap.size + 1 + 1, 0, none⟩) 3 3 1 1 (liveOs w.heap.size) [1] V q1 q2 q3 (by simp; unfold I64; decide) (by omega) (by omega) (live_chk _)
  have hG := mkNew_good (live_chk w.heap.size) [1]
  have K4 := Lib.hid q4
  have HF := Lib.hid hF
  have HG := Lib.hid hG
  rw [hV] at hc
  unfold liveCells at hc
  have HC := Lib.hid hc
  have HV := Lib.hid hV
  clear hc hF hG q1 q2 q3 q4 hV
  go_enter Try.func9, Try.ntmps9
  go_wp2_with fail
  refine HC.out.mono ?_
  rintro e w1 ⟨g, ow, rfl, hM, ho, k1⟩
  have HM := Lib.hid hM
  have K1 : Hid (Kept (fun _ => False) w w1) := by
    have h := HV.out
    unfold liveCells at h
    rw [← h] at k1
    exact K4.out.trans k1 (fun _ _ h => h)
  have HO : Hid (∀ k, Own ow k → w.heap.size ≤ k) := by
    show ∀ k, Own ow k → w.heap.size ≤ k
    intro k hk
    have := ho k hk
    simp only [World.size_alloc] at this
    omega
  have hs := m_step HG.out HF.out hM 1
  rw [show (1 : Int).toNat = 1 from rfl, live_steps] at hs
  have HS := Lib.hid hs
  clear hM k1 ho hs HC HV K4
  go_wp2_with fail
  refine HS.out.mono ?_
  rintro e w2 ⟨rfl, ow2, hM2, k2, s2⟩
  have K2 : Hid (Kept (fun _ => False) w w2) := K1.out.trans k2 (fun i hi hf => by have := HO.out i hf; omega)
  have t0 : ((liveMk.queue.length : Int) == 0) = false := rfl
  have HGR := Lib.hid (m_gray hM2 (by show 2 ≤ 1000; omega))
  have HM2 := Lib.hid hM2
  clear hM2 k2 s2 HS HM K1 HO
  go_wp2_with fail
  refine HGR.out.mono ?_
  rintro e w3 ⟨v, rfl, A, c, rfl, r3, f3, k3⟩
  have hM3 := HM2.out.kept k3 (by simp)
  have hc : Calls Try.prog 14 #[.pointer (some ⟨g, 0, none⟩), .int .i64 1] w3 fun e w' => e = .returned (.int .i64 2) ∧ w3 = w' := m_color (show liveMk.Good by rw [← live_steps w.heap.size]; exact HG.out.steps 1) hM3 (id := 1) (by unfold I64; decide)
  have HC := Lib.hid hc
  have K3 : Hid (Kept (fun _ => False) w w3) := K2.out.trans k3 (fun _ _ h => h)
  obtain ⟨qb, qo, x0, rfl, _, hx0, e0⟩ := r3.src.at_ (j := 0) (by show 0 < 2; omega)
  obtain ⟨qb1, qo1, x1, hh, _, hx1, e1⟩ := r3.src.at_ (j := 1) (by show 1 < 2; omega)
  injection hh with hh
  injection hh with hh1 hh2
  subst hh1 hh2
  rw [Nat.add_zero] at e0
  obtain rfl : (2 : Int) = x0 := by injection hx0
  obtain rfl : (3 : Int) = x1 := by injection hx1
  clear HGR HM2 hM3 hc r3 f3 k3 K2 HG HF hx0 hx1 t0
  have hl2 : liveMk.queue.length = 2 := rfl
  simp only [hl2]
  go_wp2_with fail
  refine HC.out.mono ?_
  rintro e w4 ⟨rfl, rfl⟩
  clear HC
  go_wp2
  go_ret
  exact ⟨rfl, K3.out⟩
end Go.Proofs.Ytalhldfcdfdoeaa
