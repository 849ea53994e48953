/- What is proved here: the walk of MarkNil: it returns true and changes nothing that was there. Condition: the argument lies in memory as a graph. -/
import Derived.Test.YtalhldfcdfdoeaaSteps
import Derived.Test.YtalhldfcdfdoeaaAllReach
import Derived.Test.YtalhldfcdfdoeaaRefCheck
namespace Go.Proofs.Ytalhldfcdfdoeaa
open Go.RowKit

theorem nil_step (n : Int) (w : World) : Calls Try.prog 11 #[.pointer none, .int .i64 n] w fun e w' => e = .returned (.bool false) ∧ w = w' := by
  go_enter Try.func11, Try.ntmps11
  go_wp2
  go_ret
  exact ⟨rfl, rfl⟩
theorem nil_color (n : Int) (w : World) : Calls Try.prog 14 #[.pointer none, .int .i64 n] w fun e w' => e = .returned (.int .i64 0) ∧ w = w' := by
  go_enter Try.func14, Try.ntmps14
  go_wp2
  go_ret
  exact ⟨rfl, rfl⟩
theorem nil_write (n m : Int) (w : World) : Calls Try.prog 19 #[.pointer none, .int .i64 n, .int .i64 m] w fun e w' => e = .returned (.int .i64 1) ∧ w = w' := by
  go_enter Try.func19, Try.ntmps19
  go_wp2
  go_ret
  exact ⟨rfl, rfl⟩
theorem nil_root (n : Int) (w : World) : Calls Try.prog 20 #[.pointer none, .int .i64 n] w fun e w' => e = .returned (.int .i64 1) ∧ w = w' := by
  go_enter Try.func20, Try.ntmps20
  go_wp2
  go_ret
  exact ⟨rfl, rfl⟩
theorem nil_gray (w : World) : Calls Try.prog 13 #[.pointer none] w fun e w' => e = .returned (.slice none 0 0) ∧ w = w' := by
  go_enter Try.func13, Try.ntmps13
  go_wp2
  go_ret
  exact ⟨rfl, rfl⟩
theorem nil_sound (w : World) : Calls Try.prog 21 #[.pointer none] w fun e w' => e = .returned (.bool false) ∧ w = w' := by
  go_enter Try.func21, Try.ntmps21
  go_wp2
  go_ret
  exact ⟨rfl, rfl⟩

set_option maxHeartbeats 8000000 in
theorem nil_walk (w : World) (oA rA : Option Addr) (on oc rn rc : Nat) (os : List Ob) (rs : List Int) (h : Gr w oA rA on oc rn rc os rs) (x y : Int) :
    Calls Try.prog 7 #[.agg #[.slice oA on oc, .slice rA rn rc], .int .i64 x, .int .i64 y] w fun e w' => e = .returned (.bool true) ∧ Kept (fun _ => False) w w' := by
  have HL := Lib.hid (large_any oA rA on oc rn rc os (w.alloc (.cells #[.slice oA on oc, .slice rA rn rc] 25)) (h.objs.later ((Kept.refl _ w).alloc _)))
  have H := Lib.hid h
  clear h
  go_enter Try.func7, Try.ntmps7
  go_wp2_with fail
  refine HL.out.mono ?_
  rintro e w1 ⟨b, rfl, hsm, k1⟩
  have hbx : Blk w1 w.heap.size 25 #[.slice oA on oc, .slice rA rn rc] := (Blk.new w 25 _).kept k1 (by simp)
  have K1 : Hid (Kept (fun _ => False) w w1) := ((Kept.refl _ w).alloc _).trans k1 (fun _ _ h => h)
  have HLV := Lib.hid lives_any
  clear k1 HL
  cases b with
  | true =>
    go_wp2_with fail
    refine (HLV.out _).mono ?_
    rintro e w2 ⟨rfl, k2⟩
    have K2 : Hid (Kept (fun _ => False) w w2) := K1.out.trans k2 (fun _ _ h => h)
    clear k2
    go_wp2
    go_ret
    exact ⟨rfl, K2.out⟩
  | false =>
    obtain ⟨q1, q2, q3⟩ := hsm rfl
    have c0 := hbx.cell 0
    have c1 := hbx.cell 1
    have HBX := Lib.hid hbx
    have H1 := Lib.hid (H.out.later K1.out)
    have HQ := Lib.hid q3
    clear hsm q3 hbx
    obtain ⟨mn, hmn⟩ : ∃ mn : Int, mn = x ∧ x ≤ 100 ∨ mn = 100 ∧ 100 < x := by
      by_cases h : 100 < x
      · exact ⟨100, .inr ⟨rfl, h⟩⟩
      · exact ⟨x, .inl ⟨rfl, by omega⟩⟩
    rcases hmn with ⟨rfl, hle⟩ | ⟨rfl, hle⟩
    all_goals
      go_wp2_with fail
    all_goals (try (exfalso; omega))
    all_goals
      refine (nil_step _ _).mono ?_
      rintro e w2 ⟨rfl, rfl⟩
      go_wp2_with fail
      refine (nil_color _ _).mono ?_
      rintro e w2 ⟨rfl, rfl⟩
      go_wp2_with fail
      refine (nil_write _ _ _).mono ?_
      rintro e w2 ⟨rfl, rfl⟩
      go_wp2_with fail
      refine (nil_root _ _).mono ?_
      rintro e w2 ⟨rfl, rfl⟩
      go_wp2_with fail
      refine (nil_gray _).mono ?_
      rintro e w2 ⟨rfl, rfl⟩
      go_wp2_with fail
      refine (nil_sound _).mono ?_
      rintro e w2 ⟨rfl, rfl⟩
      by_cases hck : chk 0 os = true
      · have hok : ∀ o, o ∈ os → ObOk w1 o := fun o ho => (H1.out.pre o ho).ok (HQ.out o ho)
        have HN := Lib.hid (new_ok oA rA on oc rn rc os rs w1 H1.out.objs hok H1.out.roots H1.out.ints (by omega) (by omega) hck)
        clear hok
        go_wp2_with fail
        refine HN.out.mono ?_
        rintro e w2 ⟨ga, owa, rfl, _, _, k2⟩
        have hbx2 := HBX.out.kept k2 (by simp)
        have d0 := hbx2.cell 0
        have d1 := hbx2.cell 1
        have hok2 : ∀ o, o ∈ os → ObOk w2 o := fun o ho => ((H1.out.pre o ho).later k2).ok (HQ.out o ho)
        have HR := Lib.hid (reach_ok oA rA on oc rn rc os rs w2 (H1.out.objs.later k2) hok2 (H1.out.roots.kept k2 (fun _ _ h => h)) H1.out.ints (by omega) (by omega) hck)
        have K2 := Lib.hid k2
        clear k2 hok2 HN hbx2 c0 c1
        go_wp2_with fail
        refine HR.out.mono ?_
        rintro e w3 ⟨v, rfl, A3, c3, rfl, _, _, k3⟩
        have hbx3 := (HBX.out.kept K2.out (by simp)).kept k3 (by simp)
        have f0 := hbx3.cell 0
        have f1 := hbx3.cell 1
        have K3 : Hid (Kept (fun _ => False) w1 w3) := K2.out.trans k3 (fun _ _ h => h)
        have hrc := rcheck_any oA rA on oc rn rc os w3 (H1.out.objs.later K3.out) (by omega)
        rw [chkE, hck] at hrc
        simp only [if_true] at hrc
        have HRC := Lib.hid hrc
        clear k3 HR hbx3 d0 d1 hrc
        go_wp2_with fail
        refine HRC.out.mono ?_
        rintro e w4 ⟨rfl, k4⟩
        have K4 : Hid (Kept (fun _ => False) w w4) := (K1.out.trans K3.out (fun _ _ h => h)).trans k4 (fun _ _ h => h)
        clear k4 HRC f0 f1
        go_wp2_with fail
        refine (HLV.out _).mono ?_
        rintro e w5 ⟨rfl, k5⟩
        have K5 : Hid (Kept (fun _ => False) w w5) := K4.out.trans k5 (fun _ _ h => h)
        clear k5
        go_wp2
        go_ret
        exact ⟨rfl, K5.out⟩
      · obtain hck : chk 0 os = false := by simpa using hck
        have HN := Lib.hid (new_bad oA rA on oc rn rc os w1 H1.out.objs (by omega) hck)
        go_wp2_with fail
        refine HN.out.mono ?_
        rintro e w2 ⟨rfl, k2⟩
        have hbx2 := HBX.out.kept k2 (by simp)
        have d0 := hbx2.cell 0
        have d1 := hbx2.cell 1
        have HR := Lib.hid (reach_bad oA rA on oc rn rc os w2 (H1.out.objs.later k2) (by omega) hck)
        have K2 := Lib.hid k2
        clear k2 HN hbx2 c0 c1
        go_wp2_with fail
        refine HR.out.mono ?_
        rintro e w3 ⟨rfl, k3⟩
        have hbx3 := (HBX.out.kept K2.out (by simp)).kept k3 (by simp)
        have f0 := hbx3.cell 0
        have f1 := hbx3.cell 1
        have K3 : Hid (Kept (fun _ => False) w1 w3) := K2.out.trans k3 (fun _ _ h => h)
        have hrc := rcheck_any oA rA on oc rn rc os w3 (H1.out.objs.later K3.out) (by omega)
        rw [chkE, hck] at hrc
        simp only [Bool.false_eq_true, if_false] at hrc
        have HRC := Lib.hid hrc
        clear k3 HR hbx3 d0 d1 hrc
        go_wp2_with fail
        refine HRC.out.mono ?_
        rintro e w4 ⟨rfl, k4⟩
        have K4 : Hid (Kept (fun _ => False) w w4) := (K1.out.trans K3.out (fun _ _ h => h)).trans k4 (fun _ _ h => h)
        clear k4 HRC f0 f1
        go_wp2_with fail
        refine (HLV.out _).mono ?_
        rintro e w5 ⟨rfl, k5⟩
        have K5 : Hid (Kept (fun _ => False) w w5) := K4.out.trans k5 (fun _ _ h => h)
        clear k5
        go_wp2
        go_ret
        exact ⟨rfl, K5.out⟩
end Go.Proofs.Ytalhldfcdfdoeaa
