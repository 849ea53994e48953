/- What is proved here: what slices.Clone, slices.Grow, slices.Concat (of two) and 'entries' do to memory. Conditions: the slices are given as rows. -/
import Derived.Test.YtalhldfcdfdoeaaReach
import Derived.Lib.AppendZeros
import Derived.LoopN
namespace Go.Proofs.Ytalhldfcdfdoeaa
open Go.RowKit
namespace W

/-- The result of a call: a new slice that holds xs; nothing that was there has changed. -/
def FreshRow (w : World) (xs : List Int) (e : Ending) (w' : World) : Prop :=
  ∃ A c, e = .returned (.slice A xs.length c) ∧ Row w' A xs.length c xs ∧ (∀ r, rowBlk A = some r → w.heap.size ≤ r) ∧ Kept (fun _ => False) w w'

set_option maxHeartbeats 400000 in
theorem clone_nil (w : World) : Calls Try.prog 24 #[.slice none 0 0] w (FreshRow w []) := by
  have hnil := fun (w : World) => Lib.run_eql_slice_nil (P := Try.prog) w 23 3 none 0 0 0 0 Try.underlying23
  go_enter Try.func24, Try.ntmps24
  go_wp2
  go_ret
  exact ⟨none, 0, rfl, Row.nil _, by simp [rowBlk], Kept.refl _ _⟩

set_option maxHeartbeats 800000 in
theorem clone_some (a : Addr) (n c : Nat) (ys : List Int) (w : World) (hs : Src w (some a) n ys) (hb : n * 8 ≤ 140737488355328) : Calls Try.prog 24 #[.slice (some a) n c] w (FreshRow w ys) := by
  have hnil := fun (w : World) => Lib.run_eql_slice_nil (P := Try.prog) w 23 3 (some a) n c 0 0 Try.underlying23
  have hr0 : Row (w.alloc (.cells #[] 3)) (some ⟨w.heap.size, 0, none⟩) 0 0 [] := Row.new w [] (Nat.zero_le _)
  have hs0 : Src (w.alloc (.cells #[] 3)) (some a) n ys := hs.kept ((Kept.refl (fun _ => False) w).alloc _) (by simp)
  have HR := Lib.hid hr0
  have HS := Lib.hid hs0
  have HL := Lib.hid hs.1
  have hb' : (0 + n) * 8 ≤ 140737488355328 := by omega
  clear hr0 hs0 hs
  go_enter Try.func24, Try.ntmps24
  go_wp2_with (at_builtin; refine wpList_append_Row _ rfl _ _ rfl (some ⟨w.heap.size, 0, none⟩) 0 0 [] rfl HR.out (some a) n c ys rfl HS.out (by simp) hb' ?_)
  intro A' c' w1 r1 r2 r3
  have R1 := Lib.hid r1
  have R3 : Hid (∀ r, rowBlk A' = some r → w.heap.size ≤ r) := by
    show ∀ r, rowBlk A' = some r → w.heap.size ≤ r
    intro r hr
    rcases r3 with h | ⟨r', h, hr'⟩
    · rw [h] at hr
      simp [rowBlk] at hr
      omega
    · rw [h] at hr
      injection hr with hr
      omega
  have K1 : Hid (Kept (fun _ => False) w w1) := ((Kept.refl _ w).alloc _).grown r2 (fun k hk hlt => by simp [rowBlk] at hk; omega)
  clear r1 r2 r3 HR HS
  go_wp2
  go_ret
  have hl := HL.out
  refine ⟨A', c', ?_, ?_, R3.out, K1.out⟩
  · simp [hl]
  · rw [hl]
    exact R1.out

theorem clone_any (A : Option Addr) (n c : Nat) (ys : List Int) (w : World) (hs : Src w A n ys) (hA : A = none → n = 0 ∧ c = 0) (hb : n * 8 ≤ 140737488355328) : Calls Try.prog 24 #[.slice A n c] w (FreshRow w ys) := by
  cases A with
  | none =>
    obtain ⟨rfl, rfl⟩ := hA rfl
    obtain rfl : ys = [] := List.eq_nil_of_length_eq_zero hs.1
    exact clone_nil w
  | some a => exact clone_some a n c ys w hs hb

/-- What Grow of a nil slice leaves: an empty slice. -/
def Grew (w : World) (e : Ending) (w' : World) : Prop := ∃ A c, e = .returned (.slice A 0 c) ∧ Row w' A 0 c [] ∧ (∀ r, rowBlk A = some r → w.heap.size ≤ r) ∧ Kept (fun _ => False) w w'

set_option maxHeartbeats 800000 in
theorem grow_nil (n : Nat) (w : World) (hb : n * 8 ≤ 140737488355328) : Calls Try.prog 32 #[.slice none 0 0, .int .i64 (n : Int)] w (Grew w) := by
  by_cases h0 : n = 0
  · subst h0
    go_enter Try.func32, Try.ntmps32
    go_wp2
    go_ret
    exact ⟨none, 0, rfl, Row.nil _, by simp [rowBlk], Kept.refl _ _⟩
  · obtain ⟨i0, hi0, hz0, hz1, hz2⟩ := info_parts Try.info3
    have hrun := Lib.run_append_nil_zeros (P := Try.prog) w 23 3 23 3 i0 (.int .i64 0) .i64 .i64 Try.underlying23 Try.underlying3 hi0 hz0 n (by omega) (by omega) (by omega) (by rw [hz2]; omega)
    have hpos : (0 : Int) < (n : Int) := by omega
    have hge := grownCap_ge w n 0 3
    have hle := grownCap_le_maxLen w n 0 3 (by unfold maxLen; omega)
    obtain ⟨cap, hcap⟩ : ∃ cap, cap = grownCap w n 0 3 := ⟨_, rfl⟩
    rw [← hcap] at hrun hge hle
    obtain ⟨cs, hcs⟩ : ∃ cs, cs = Builtin.zeroCells (Value.int .i64 0).cells n ++ Builtin.zeroCells (Value.int .i64 0).cells (cap - n) := ⟨_, rfl⟩
    have hsz : cs.size = cap := by
      rw [hcs]
      simp [size_zeroCells, Value.cells]
      omega
    rw [← hcs] at hrun
    have HSZ := Lib.hid hsz
    have HLE := Lib.hid hle
    have hbd : cap ≤ 9223372036854775807 := by unfold maxLen at hle; omega
    clear hcs hcap h0 hi0 hz0 hz1 hz2 hsz hle
    go_enter Try.func32, Try.ntmps32
    have HRUN := Lib.hid hrun
    clear hrun
    go_wp2_with (at_builtin; refine Lib.wpList_append_run _ rfl (.tmp 20) (.tmp 21) 23 3 rfl _ _ rfl rfl _ _ HRUN.out ?_)
    clear HRUN
    go_wp2
    go_ret
    refine ⟨some ⟨w.heap.size, 0, none⟩, cap, rfl, ⟨rfl, Nat.zero_le _, HLE.out, .inr ⟨w.heap.size, 0, cs, rfl, heap_alloc_new w _, by rw [HSZ.out]; omega, fun j hj => by omega⟩⟩, by simp [rowBlk], ((Kept.refl _ w).drew).alloc _⟩

/-- A slice that holds xs in memory that is new since w. -/
def Late (w : World) (xs : List Int) (v : Value) (w' : World) : Prop :=
  ∃ A c, v = .slice A xs.length c ∧ Row w' A xs.length c xs ∧ (∀ r, rowBlk A = some r → w.heap.size ≤ r) ∧ Kept (fun _ => False) w w'

set_option maxHeartbeats 2000000 in
theorem concat_two (b : Nat) (A1 A2 : Option Addr) (n1 n2 c1 c2 : Nat) (y1 y2 : List Int) (w : World) (d0 : w.cell? ⟨b, 0, none⟩ = some (.slice A1 n1 c1)) (d1 : w.cell? ⟨b, 1, none⟩ = some (.slice A2 n2 c2)) (hbl : b < w.heap.size)
    (hs1 : Src w A1 n1 y1) (hs2 : Src w A2 n2 y2) (hA1 : A1 = none → n1 = 0) (hA2 : A2 = none → n2 = 0) (hb : (n1 + n2) * 8 ≤ 140737488355328) :
    Calls Try.prog 30 #[.slice (some ⟨b, 0, none⟩) 2 2] w fun e w' => ∃ v, e = .returned v ∧ Late w (y1 ++ y2) v w' := by
  have HS1 := Lib.hid hs1
  have HS2 := Lib.hid hs2
  have HA1 := Lib.hid hA1
  have HA2 := Lib.hid hA2
  have hl1 := Lib.hid hs1.1
  have hl2 := Lib.hid hs2.1
  clear hs1 hs2 hA1 hA2
  have hb1 : (n1 : Int) * 8 ≤ 140737488355328 := by omega
  have hb2 : ((n1 : Int) + (n2 : Int)) * 8 ≤ 140737488355328 := by omega
  go_enter Try.func30, Try.ntmps30
  go_wp2
  go_loop [3, 11] (fun s i => (i = .int .i64 0 ∧ s = .int .i64 0) ∨ (i = .int .i64 1 ∧ s = .int .i64 (n1 : Int)) ∨ (i = .int .i64 2 ∧ s = .int .i64 ((n1 : Int) + (n2 : Int)))) (fun _ i => 2 - (intOf i).toNat)
  case atStart => exact .inl ⟨rfl, rfl⟩
  case round =>
    rcases hrel with ⟨rfl, rfl⟩ | ⟨rfl, rfl⟩ | ⟨rfl, rfl⟩
    · go_wp2
      go_round
      case rel => exact .inr (.inl ⟨rfl, by simp⟩)
      case measure => simp [intOf]
    · go_wp2
      go_round
      case rel => exact .inr (.inr ⟨rfl, by simp⟩)
      case measure => simp [intOf]
    · have hg := grow_nil (n1 + n2) w (by omega)
      rw [show ((n1 + n2 : Nat) : Int) = (n1 : Int) + (n2 : Int) by omega] at hg
      have HG := Lib.hid hg
      clear hg
      go_wp2_with fail
      refine HG.out.mono ?_
      rintro e w1 ⟨A0, c0, rfl, row0, fr0, k0⟩
      clear HG
      have HL0 : Hid (Late w [] (.slice A0 0 c0) w1) := ⟨A0, c0, rfl, row0, fr0, k0⟩
      clear row0 fr0 k0
      go_wp2
      go_loopw [6, 27] (fun v i wr => (i = .int .i64 0 ∧ Late w [] v wr) ∨ (i = .int .i64 1 ∧ Late w y1 v wr) ∨ (i = .int .i64 2 ∧ Late w (y1 ++ y2) v wr)) (fun _ i _ => 2 - (intOf i).toNat)
      case atStart => exact .inl ⟨rfl, HL0.out⟩
      case round =>
        rcases hrel with ⟨rfl, A, c, rfl, row, fr, kk⟩ | ⟨rfl, A, c, rfl, row, fr, kk⟩ | ⟨rfl, hlate⟩
        · have e0 := (kk.cell (p := ⟨b, 0, none⟩) hbl (by simp)).trans d0
          have e1 := (kk.cell (p := ⟨b, 1, none⟩) hbl (by simp)).trans d1
          have sq := HS1.out.kept kk (fun _ _ h => h)
          have R := Lib.hid row
          have SQ := Lib.hid sq
          have FR := Lib.hid fr
          have KK := Lib.hid kk
          have hb0 : (([] : List Int).length + n1) * 8 ≤ 140737488355328 := by simp; omega
          have HB0 := Lib.hid hb0
          clear row sq fr kk hb0
          go_wp2_with (at_builtin; refine wpList_append_Row _ rfl _ _ rfl A _ c [] rfl R.out A1 n1 c1 y1 rfl SQ.out HA1.out HB0.out ?_)
          intro A' c' w2 r1 r2 r3
          have HN : Hid (Late w y1 (.slice A' n1 c') w2) := by
            refine ⟨A', c', by rw [hl1.out], ?_, fun r hr => ?_, KK.out.grown r2 (fun k hk hlt => by have := FR.out k hk; omega)⟩
            · rw [hl1.out]; simpa using r1
            · rcases r3 with h | ⟨r', h, hr'⟩
              · rw [h] at hr; exact FR.out r hr
              · rw [h] at hr; injection hr with hr; have := KK.out.size; omega
          clear r1 r2 r3 R SQ FR KK e0 e1
          go_wp2
          go_roundw
          case rel => exact .inr (.inl ⟨rfl, by simpa using HN.out⟩)
          case measure => simp [intOf]
        · have e0 := (kk.cell (p := ⟨b, 0, none⟩) hbl (by simp)).trans d0
          have e1 := (kk.cell (p := ⟨b, 1, none⟩) hbl (by simp)).trans d1
          have sq := HS2.out.kept kk (fun _ _ h => h)
          have R := Lib.hid row
          have SQ := Lib.hid sq
          have FR := Lib.hid fr
          have KK := Lib.hid kk
          have hb0 : (y1.length + n2) * 8 ≤ 140737488355328 := by rw [hl1.out]; omega
          have HB0 := Lib.hid hb0
          clear row sq fr kk hb0
          go_wp2_with (at_builtin; refine wpList_append_Row _ rfl _ _ rfl A _ c y1 rfl R.out A2 n2 c2 y2 rfl SQ.out HA2.out HB0.out ?_)
          intro A' c' w2 r1 r2 r3
          have HN : Hid (Late w (y1 ++ y2) (.slice A' (y1.length + n2) c') w2) := by
            have e : (y1 ++ y2).length = y1.length + n2 := by rw [List.length_append, hl2.out]
            refine ⟨A', c', by rw [e], ?_, fun r hr => ?_, KK.out.grown r2 (fun k hk hlt => by have := FR.out k hk; omega)⟩
            · rw [e]; exact r1
            · rcases r3 with h | ⟨r', h, hr'⟩
              · rw [h] at hr; exact FR.out r hr
              · rw [h] at hr; injection hr with hr; have := KK.out.size; omega
          clear r1 r2 r3 R SQ FR KK e0 e1
          go_wp2
          go_roundw
          case rel => exact .inr (.inr ⟨rfl, HN.out⟩)
          case measure => simp [intOf]
        · have HN := Lib.hid hlate
          clear hlate
          go_wp2
          go_ret
          exact ⟨_, rfl, HN.out⟩
end W
end Go.Proofs.Ytalhldfcdfdoeaa
