/- What is proved here: what 'reach' and 'Color' of a marker do to memory. Conditions: the cells that are read are given. -/
import Derived.Test.YtalhldfcdfdoeaaMap
import Derived.BigGuardPart
import Derived.BigRegion
import Derived.BigQuiet
import Derived.Deep.QuietTactic
import Derived.Deep.DeepCutAuto
namespace Go.Proofs.Ytalhldfcdfdoeaa
open Go.RowKit
namespace W

set_option maxHeartbeats 400000 in
theorem reach_none (g mb : Nat) (id : Int) (w : World) (h0 : w.cell? ⟨g, 0, none⟩ = some (.map (some mb)))
    (hl : (Instr.lookup 53 (.map (some mb)) (.int .i64 id) true).run Try.prog w = .ok (.tuple #[.pointer none, .bool false]) w) :
    Calls Try.prog 26 #[.pointer (some ⟨g, 0, none⟩), .int .i64 id] w fun e w' => e = .returned (.tuple #[]) ∧ w = w' := by
  go_enter Try.func26, Try.ntmps26
  go_wp2
  go_end0
  exact ⟨rfl, rfl⟩

set_option maxHeartbeats 400000 in
theorem reach_other (g mb nb c : Nat) (id : Int) (w : World) (h0 : w.cell? ⟨g, 0, none⟩ = some (.map (some mb)))
    (hl : (Instr.lookup 53 (.map (some mb)) (.int .i64 id) true).run Try.prog w = .ok (.tuple #[.pointer (some ⟨nb, 0, none⟩), .bool true]) w)
    (hc : w.cell? ⟨nb, 2, none⟩ = some (.int .i64 (c : Int))) (hc0 : ((c : Int) == 0) = false) :
    Calls Try.prog 26 #[.pointer (some ⟨g, 0, none⟩), .int .i64 id] w fun e w' => e = .returned (.tuple #[]) ∧ w = w' := by
  go_enter Try.func26, Try.ntmps26
  go_wp2
  go_end0
  exact ⟨rfl, rfl⟩

/-- What a reach of a white object leaves: its color, and the queue with it at the end. -/
def Reached (g nb : Nat) (qA : Option Addr) (q : List Int) (id : Int) (v0 : Value) (w w' : World) : Prop :=
  ∃ w1 qA' c', Kept (fun k => k = nb ∨ rowBlk qA = some k) w w1 ∧ w' = w1.setCell ⟨g, 1, none⟩ (.slice qA' (q.length + 1) c') ∧ Row w1 qA' (q.length + 1) c' (q ++ [id]) ∧ (rowBlk qA' = rowBlk qA ∨ ∃ r, rowBlk qA' = some r ∧ w.heap.size ≤ r) ∧
    ∀ t cs, Blk w nb t cs → Blk w1 nb t (cs.setIfInBounds 2 v0)

set_option maxHeartbeats 800000 in
theorem reach_white (g mb nb qc : Nat) (qA : Option Addr) (q : List Int) (id : Int) (w : World) (h0 : w.cell? ⟨g, 0, none⟩ = some (.map (some mb))) (h1 : w.cell? ⟨g, 1, none⟩ = some (.slice qA q.length qc))
    (hf : w.frozen? ⟨g, 1, none⟩ = false) (hgl : g < w.heap.size)
    (hl : (Instr.lookup 53 (.map (some mb)) (.int .i64 id) true).run Try.prog w = .ok (.tuple #[.pointer (some ⟨nb, 0, none⟩), .bool true]) w)
    (hc : w.cell? ⟨nb, 2, none⟩ = some (.int .i64 0)) (hcf : w.frozen? ⟨nb, 2, none⟩ = false) (hq : Row w qA q.length qc q) (hgn : g ≠ nb) (hqn : rowBlk qA ≠ some nb) (hqg : rowBlk qA ≠ some g) (hbd : (q.length + 1) * 8 ≤ 140737488355328) :
    Calls Try.prog 26 #[.pointer (some ⟨g, 0, none⟩), .int .i64 id] w fun e w' => e = .returned (.tuple #[]) ∧ Reached g nb qA q id (.int .i64 1) w w' := by
  have HQ := Lib.hid hq
  clear hq
  obtain ⟨qn, hqn'⟩ : ∃ qn, qn = q.length := ⟨_, rfl⟩
  have HQN := Lib.hid hqn'
  rw [← hqn'] at h1 hbd
  clear hqn'
  go_enter Try.func26, Try.ntmps26
  go_upto_region 3 with (fail)
  obtain ⟨W, hW⟩ : ∃ W, W = w.setCell ⟨nb, 2, none⟩ (.int .i64 1) := ⟨_, rfl⟩
  have hk0 : Kept (fun k => k = nb ∨ rowBlk qA = some k) w W := by rw [hW]; exact (Kept.refl _ w).setCell (fun _ => .inl rfl) _
  have hkn : Kept (fun k => k = nb) w W := by rw [hW]; exact (Kept.refl (fun k => k = nb) w).setCell (fun _ => rfl) _
  have hr0 : Row W qA qn qc q := by rw [HQN.out]; exact HQ.out.kept hkn (fun r hr e => hqn (by rw [hr, e]))
  have d1 : W.cell? ⟨g, 1, none⟩ = some (.slice qA qn qc) := (hkn.cell (p := ⟨g, 1, none⟩) hgl hgn).trans h1
  have df : W.frozen? ⟨g, 1, none⟩ = false := (World.frozen?_of_block (hkn.block g hgl hgn)).trans hf
  have HB : Hid (∀ t cs, Blk w nb t cs → Blk W nb t (cs.setIfInBounds 2 (.int .i64 1))) := by
    show ∀ t cs, Blk w nb t cs → Blk W nb t (cs.setIfInBounds 2 (.int .i64 1))
    intro t cs h
    rw [hW]
    exact h.set_ 2 _
  rw [← hW]
  have HK0 := Lib.hid hk0
  have HR0 := Lib.hid hr0
  have hWs : w.heap.size ≤ W.heap.size := hk0.size
  clear hW hk0 hkn hr0 h0 h1 hf hl hc hcf
  have hsrc : Src (W.alloc (.cells #[.int .i64 id] 3)) (some ⟨W.heap.size, 0, none⟩) 1 [id] := (Row.new W [id] (by show 1 ≤ maxLen; decide)).src
  have HS := Lib.hid hsrc
  have hra : Row (W.alloc (.cells #[.int .i64 id] 3)) qA qn qc q := HR0.out.kept ((Kept.refl (fun _ => False) W).alloc _) (by simp)
  have HRA := Lib.hid hra
  clear hsrc hra
  go_wp2_with (at_builtin; refine wpList_append_Row _ rfl _ _ rfl qA qn qc q rfl HRA.out (some ⟨W.heap.size, 0, none⟩) 1 1 [id] rfl HS.out (by simp) hbd ?_)
  intro qA' c' w1 r1 r2 r3
  have hk1 : Kept (fun k => k = nb ∨ rowBlk qA = some k) w w1 := (HK0.out.alloc _).grown r2 (fun k hk _ => .inr hk)
  have e1 : w1.cell? ⟨g, 1, none⟩ = some (.slice qA qn qc) := by
    have hk2 : Kept (fun k => rowBlk qA = some k) W w1 := ((Kept.refl _ W).alloc _).grown r2 (fun k hk _ => hk)
    exact (hk2.cell (p := ⟨g, 1, none⟩) (by simp; omega) hqg).trans d1
  have ef : w1.frozen? ⟨g, 1, none⟩ = false := by
    have hk2 : Kept (fun k => rowBlk qA = some k) W w1 := ((Kept.refl _ W).alloc _).grown r2 (fun k hk _ => hk)
    exact (World.frozen?_of_block (hk2.block g (by omega) hqg)).trans df
  have HB1 : Hid (∀ t cs, Blk w nb t cs → Blk w1 nb t (cs.setIfInBounds 2 (.int .i64 1))) := by
    show ∀ t cs, Blk w nb t cs → Blk w1 nb t (cs.setIfInBounds 2 (.int .i64 1))
    intro t cs h
    have hk2 : Kept (fun k => rowBlk qA = some k) W w1 := ((Kept.refl _ W).alloc _).grown r2 (fun k hk _ => hk)
    exact (HB.out t cs h).kept hk2 hqn
  have R1 := Lib.hid r1
  have K1 := Lib.hid hk1
  have R3 : Hid (rowBlk qA' = rowBlk qA ∨ ∃ r, rowBlk qA' = some r ∧ w.heap.size ≤ r) := by
    show rowBlk qA' = rowBlk qA ∨ ∃ r, rowBlk qA' = some r ∧ w.heap.size ≤ r
    rcases r3 with h | ⟨r, h, hr⟩
    · exact .inl h
    · exact .inr ⟨r, h, by omega⟩
  clear r1 r2 r3 hk1 d1 df HB HS HRA HR0 HK0
  go_wp2
  go_end0
  refine ⟨rfl, w1, qA', c', K1.out, by rw [HQN.out], by rw [← HQN.out]; exact R1.out, R3.out, HB1.out⟩

set_option maxHeartbeats 400000 in
theorem color_some (g mb nb c : Nat) (id : Int) (w : World) (h0 : w.cell? ⟨g, 0, none⟩ = some (.map (some mb)))
    (hl : (Instr.lookup 53 (.map (some mb)) (.int .i64 id) true).run Try.prog w = .ok (.tuple #[.pointer (some ⟨nb, 0, none⟩), .bool true]) w)
    (hc : w.cell? ⟨nb, 2, none⟩ = some (.int .i64 (c : Int))) :
    Calls Try.prog 14 #[.pointer (some ⟨g, 0, none⟩), .int .i64 id] w fun e w' => e = .returned (.int .i64 (c : Int)) ∧ w = w' := by
  go_enter Try.func14, Try.ntmps14
  go_wp2
  go_ret
  exact ⟨rfl, rfl⟩

set_option maxHeartbeats 400000 in
theorem color_none (g mb : Nat) (id : Int) (w : World) (h0 : w.cell? ⟨g, 0, none⟩ = some (.map (some mb)))
    (hl : (Instr.lookup 53 (.map (some mb)) (.int .i64 id) true).run Try.prog w = .ok (.tuple #[.pointer none, .bool false]) w) :
    Calls Try.prog 14 #[.pointer (some ⟨g, 0, none⟩), .int .i64 id] w fun e w' => e = .returned (.int .i64 (-1)) ∧ w = w' := by
  go_enter Try.func14, Try.ntmps14
  go_wp2
  go_ret
  exact ⟨rfl, rfl⟩

end W
end Go.Proofs.Ytalhldfcdfdoeaa
