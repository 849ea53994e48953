/- What is proved here: the walk of MarkBarrier: it returns true and changes nothing that was there. Condition: the arguments lie in memory as a graph and a list of calls. -/
import Derived.Test.YtalhldfcdfdoeaaBPl
import Derived.Test.YtalhldfcdfdoeaaBOrd
import Derived.Deep.CutBlock
namespace Go.Proofs.Ytalhldfcdfdoeaa
open Go.RowKit
set_option linter.unusedSimpArgs false
set_option linter.unusedVariables false

/-- A slice of calls that came in. -/
structure Opl (w : World) (A : Option Addr) (n : Nat) (xs : List (Int × Int × Int)) : Prop where
  len : xs.length = n
  at_ : 0 < n → ∃ b off, A = some ⟨b, off, none⟩ ∧ b < w.heap.size ∧ ∀ i p, xs[i]? = some p → w.cell? ⟨b, off + i * 3, none⟩ = some (.int .i64 p.1) ∧ w.cell? ⟨b, off + i * 3 + 1, none⟩ = some (.int .i64 p.2.1) ∧ w.cell? ⟨b, off + i * 3 + 2, none⟩ = some (.int .i64 p.2.2)
  ints : ∀ p, p ∈ xs → I64 p.2.1 ∧ I64 p.2.2

set_option maxRecDepth 100000 in
set_option maxHeartbeats 16000000 in
theorem bar_walk (w : World) (oA rA lA : Option Addr) (on oc rn rc ln lc : Nat) (os : List Ob) (rs : List Int) (xs : List (Int × Int × Int)) (h : Gr w oA rA on oc rn rc os rs) (hx : Opl w lA ln xs) :
    Calls Try.prog 6 #[.agg #[.slice oA on oc, .slice rA rn rc], .slice lA ln lc] w fun e w' => e = .returned (.bool true) ∧ Kept (fun _ => False) w w' := by
  have HL := Lib.hid (large_any oA rA on oc rn rc os (w.alloc (.cells #[.slice oA on oc, .slice rA rn rc] 25)) (h.objs.later ((Kept.refl _ w).alloc _)))
  have H := Lib.hid h
  have HX := Lib.hid hx
  clear h hx
  go_enter Try.func6, Try.ntmps6
  go_wp2_with fail
  refine HL.out.mono ?_
  rintro e w1 ⟨b, rfl, hsm, k1⟩
  have hbx : Blk w1 w.heap.size 25 #[.slice oA on oc, .slice rA rn rc] := (Blk.new w 25 _).kept k1 (by simp)
  have K1 : Hid (Kept (fun _ => False) w w1) := ((Kept.refl _ w).alloc _).trans k1 (fun _ _ h => h)
  have HLV := Lib.hid lives_any
  have c0 := hbx.cell 0
  have c1 := hbx.cell 1
  have hbl1 := hbx.lt
  have HBX := Lib.hid hbx
  have H1 := Lib.hid (H.out.later K1.out)
  clear k1 HL hbx
  cases b with
  | true =>
    go_wp2_with fail
    refine (HLV.out _).mono ?_
    rintro e w2 ⟨rfl, k2⟩
    have K2 : Hid (Kept (fun _ => False) w w2) := K1.out.trans k2 (fun _ _ h => h)
    clear k2
    go_wp2
    go_ret
    exact ⟨rfl, K2.out⟩
  | false =>
    obtain ⟨q1, q2, q3⟩ := hsm rfl
    have HQ := Lib.hid q3
    clear hsm q3
    by_cases hl1 : 100 < ln
    · have t1 : decide (100 < (ln : Int)) = true := by simp; omega
      go_wp2_with fail
      refine (HLV.out _).mono ?_
      rintro e w2 ⟨rfl, k2⟩
      have K2 : Hid (Kept (fun _ => False) w w2) := K1.out.trans k2 (fun _ _ h => h)
      clear k2
      go_wp2
      go_ret
      exact ⟨rfl, K2.out⟩
    have t1 : decide (100 < (ln : Int)) = false := by simp; omega
    by_cases hck : chk 0 os = true
    · have hok : ∀ o, o ∈ os → ObOk w1 o := fun o ho => (H1.out.pre o ho).ok (HQ.out o ho)
      have hlen := H1.out.objs.len
      have HN := Lib.hid (new_ok oA rA on oc rn rc os rs w1 H1.out.objs hok H1.out.roots H1.out.ints (by omega) (by omega) hck)
      have HOK := Lib.hid hok
      have HG0 := Lib.hid (mkNew_good hck rs)
      have HS0 := Lib.hid ((mk0_sound os).reaches rs)
      have HCK := Lib.hid hck
      clear hok hck
      go_wp2_with fail
      refine HN.out.mono ?_
      rintro e w2 ⟨g, ow, rfl, hM2, ho2, k2⟩
      have hb2 := HBX.out.kept k2 (by simp)
      have d0 := hb2.cell 0
      have d1 := hb2.cell 1
      simp at d0 d1
      have hbl2 := hb2.lt
      have HM2 := Lib.hid hM2
      have HO2 := Lib.hid ho2
      have K2 := Lib.hid k2
      have H2 := Lib.hid (H1.out.later k2)
      have HB2 := Lib.hid hb2
      have hOA : oA = none → on = 0 := fun e => by
        rcases Nat.eq_zero_or_pos on with h | h
        · exact h
        · obtain ⟨_, _, e2, _⟩ := H.out.objs.at_ h
          rw [e] at e2
          cases e2
      have hRA : rA = none → rn = 0 := fun e => by
        rcases Nat.eq_zero_or_pos rn with h | h
        · exact h
        · obtain ⟨_, _, e2, _⟩ := H.out.roots.2 h
          rw [e] at e2
          cases e2
      have HOA := Lib.hid hOA
      have HRA := Lib.hid hRA
      clear hM2 ho2 k2 hb2 HN c0 c1 hOA hRA
      have HKS : Hid (∀ w', Kept (fun _ => False) w2 w' → w'.cell? ⟨w.heap.size, 0, none⟩ = some (.slice oA on oc) ∧ w'.cell? ⟨w.heap.size, 1, none⟩ = some (.slice rA rn rc)) := fun w' k => ⟨(k.cell (p := ⟨w.heap.size, 0, none⟩) hbl2 (by simp)).trans d0, (k.cell (p := ⟨w.heap.size, 1, none⟩) hbl2 (by simp)).trans d1⟩
      go_upto_region 6 with fail
      go_cut [7] (fun s7 wx => Now0 w2 wx s7 on os rs)
      case first =>
        go_region_held3 (fun w' => w'.cell? ⟨w.heap.size, 0, none⟩ = some (.slice oA on oc) ∧ w'.cell? ⟨w.heap.size, 1, none⟩ = some (.slice rA rn rc)) (first | exact hcc7 | exact hcc3 | exact two_far hn9 m70 m71 | (refine HKS.out _ ?_; (repeat (first | with_reducible exact HL7.out.kept | with_reducible exact HL3.out.kept | with_reducible exact Kept.refl _ _ | with_reducible apply Kept.drew | with_reducible apply Kept.alloc)); done) | go_keep)
          (first
            | (refine step_copO (by rfl) (.tmp 33) (.tmp 35) (by rfl) (by rfl) w2 _ (by rfl) (by rfl) H2.out.objs HOA.out (by omega) (by repeat (first | exact Kept.refl _ _ | apply Kept.drew | apply Kept.alloc)) (by ((repeat (first | (with_reducible refine at_hit ?_; (· ((try have f3a := HL3.out.size); (try have f3b := HL3.out.which); (try have f3c := HL3.out.here); (try have f3d := HL3.out.new); (try simp at f3a); (try simp at f3b); (try have f7a := HL7.out.size); (try have f7b := HL7.out.which); (try have f7c := HL7.out.here); (try have f7d := HL7.out.new); (try simp at f7a); (try simp at f7b); first | omega | (simp [size_drew]; done) | (simp [size_drew]; omega)))) | with_reducible apply at_drew | (with_reducible refine at_miss ?_ ?_; rotate_left; (· ((try have f3a := HL3.out.size); (try have f3b := HL3.out.which); (try have f3c := HL3.out.here); (try have f3d := HL3.out.new); (try simp at f3a); (try simp at f3b); (try have f7a := HL7.out.size); (try have f7b := HL7.out.which); (try have f7c := HL7.out.here); (try have f7d := HL7.out.new); (try simp at f7a); (try simp at f7b); first | omega | (simp [size_drew]; done) | (simp [size_drew]; omega)))) | (with_reducible refine at_lays HL3.out ?_ ?_; rotate_left; (· ((try have f3a := HL3.out.size); (try have f3b := HL3.out.which); (try have f3c := HL3.out.here); (try have f3d := HL3.out.new); (try simp at f3a); (try simp at f3b); (try have f7a := HL7.out.size); (try have f7b := HL7.out.which); (try have f7c := HL7.out.here); (try have f7d := HL7.out.new); (try simp at f7a); (try simp at f7b); first | omega | (simp [size_drew]; done) | (simp [size_drew]; omega)))))); done)) (by omega) ?_; intro c3 W3 r3 hl3 hc3; have hcc3 : W3.cell? ⟨w.heap.size, 0, none⟩ = some (.slice oA on oc) ∧ W3.cell? ⟨w.heap.size, 1, none⟩ = some (.slice rA rn rc) := ⟨(hl3.kept.cell (p := ⟨w.heap.size, 0, none⟩) hbl2 (by simp)).trans d0, (hl3.kept.cell (p := ⟨w.heap.size, 1, none⟩) hbl2 (by simp)).trans d1⟩; have m30 := hcc3.1; have m31 := hcc3.2; have HC3 := Lib.hid hc3; have HL3 := Lib.hid hl3; clear hc3 hl3)
            | (refine step_copR (by rfl) (.tmp 37) (.tmp 39) (by rfl) (by rfl) w2 _ (by rfl) (by rfl) H2.out.roots HRA.out (by omega) (by repeat (first | exact HL3.out.kept | exact Kept.refl _ _ | apply Kept.drew | apply Kept.alloc)) (by ((repeat (first | (with_reducible refine at_hit ?_; (· ((try have f3a := HL3.out.size); (try have f3b := HL3.out.which); (try have f3c := HL3.out.here); (try have f3d := HL3.out.new); (try simp at f3a); (try simp at f3b); (try have f7a := HL7.out.size); (try have f7b := HL7.out.which); (try have f7c := HL7.out.here); (try have f7d := HL7.out.new); (try simp at f7a); (try simp at f7b); first | omega | (simp [size_drew]; done) | (simp [size_drew]; omega)))) | with_reducible apply at_drew | (with_reducible refine at_miss ?_ ?_; rotate_left; (· ((try have f3a := HL3.out.size); (try have f3b := HL3.out.which); (try have f3c := HL3.out.here); (try have f3d := HL3.out.new); (try simp at f3a); (try simp at f3b); (try have f7a := HL7.out.size); (try have f7b := HL7.out.which); (try have f7c := HL7.out.here); (try have f7d := HL7.out.new); (try simp at f7a); (try simp at f7b); first | omega | (simp [size_drew]; done) | (simp [size_drew]; omega)))) | (with_reducible refine at_lays HL3.out ?_ ?_; rotate_left; (· ((try have f3a := HL3.out.size); (try have f3b := HL3.out.which); (try have f3c := HL3.out.here); (try have f3d := HL3.out.new); (try simp at f3a); (try simp at f3b); (try have f7a := HL7.out.size); (try have f7b := HL7.out.which); (try have f7c := HL7.out.here); (try have f7d := HL7.out.new); (try simp at f7a); (try simp at f7b); first | omega | (simp [size_drew]; done) | (simp [size_drew]; omega)))))); done)) (by ((try have f3a := HL3.out.size); (try have f3b := HL3.out.which); (try have f3c := HL3.out.here); (try have f3d := HL3.out.new); (try simp at f3a); (try simp at f3b); (try have f7a := HL7.out.size); (try have f7b := HL7.out.which); (try have f7c := HL7.out.here); (try have f7d := HL7.out.new); (try simp at f7a); (try simp at f7b); first | omega | (simp [size_drew]; done) | (simp [size_drew]; omega))) ?_; intro A7 c7 W7 r7 hl7 ha7 hrow7; have hcc7 : W7.cell? ⟨w.heap.size, 0, none⟩ = some (.slice oA on oc) ∧ W7.cell? ⟨w.heap.size, 1, none⟩ = some (.slice rA rn rc) := ⟨(hl7.kept.cell (p := ⟨w.heap.size, 0, none⟩) hbl2 (by simp)).trans d0, (hl7.kept.cell (p := ⟨w.heap.size, 1, none⟩) hbl2 (by simp)).trans d1⟩; have m70 := hcc7.1; have m71 := hcc7.2; have HL7 := Lib.hid hl7; have H2T : Hid (Two w2 W7 r3 r7 A7 c7 on os rs) := (Two.of hl7 HC3.out HL3.out.new (by ((try have f3a := HL3.out.size); (try have f3b := HL3.out.which); (try have f3c := HL3.out.here); (try have f3d := HL3.out.new); (try simp at f3a); (try simp at f3b); (try have f7a := HL7.out.size); (try have f7b := HL7.out.which); (try have f7c := HL7.out.here); (try have f7d := HL7.out.new); (try simp at f7a); (try simp at f7b); first | omega | (simp [size_drew]; done) | (simp [size_drew]; omega))) (by first | with_reducible rfl | exact at_miss (Eq.refl _) (by ((try have f3a := HL3.out.size); (try have f3b := HL3.out.which); (try have f3c := HL3.out.here); (try have f3d := HL3.out.new); (try simp at f3a); (try simp at f3b); (try have f7a := HL7.out.size); (try have f7b := HL7.out.which); (try have f7c := HL7.out.here); (try have f7d := HL7.out.new); (try simp at f7a); (try simp at f7b); first | omega | (simp [size_drew]; done) | (simp [size_drew]; omega))) | exact at_miss (at_miss (Eq.refl _) (by ((try have f3a := HL3.out.size); (try have f3b := HL3.out.which); (try have f3c := HL3.out.here); (try have f3d := HL3.out.new); (try simp at f3a); (try simp at f3b); (try have f7a := HL7.out.size); (try have f7b := HL7.out.which); (try have f7c := HL7.out.here); (try have f7d := HL7.out.new); (try simp at f7a); (try simp at f7b); first | omega | (simp [size_drew]; done) | (simp [size_drew]; omega)))) (by ((try have f3a := HL3.out.size); (try have f3b := HL3.out.which); (try have f3c := HL3.out.here); (try have f3d := HL3.out.new); (try simp at f3a); (try simp at f3b); (try have f7a := HL7.out.size); (try have f7b := HL7.out.which); (try have f7c := HL7.out.here); (try have f7d := HL7.out.new); (try simp at f7a); (try simp at f7b); first | omega | (simp [size_drew]; done) | (simp [size_drew]; omega)))) (by ((try have f3a := HL3.out.size); (try have f3b := HL3.out.which); (try have f3c := HL3.out.here); (try have f3d := HL3.out.new); (try simp at f3a); (try simp at f3b); (try have f7a := HL7.out.size); (try have f7b := HL7.out.which); (try have f7c := HL7.out.here); (try have f7d := HL7.out.new); (try simp at f7a); (try simp at f7b); first | omega | (simp [size_drew]; done) | (simp [size_drew]; omega))) ha7 (by rw [H2.out.roots.1]; exact hrow7)); clear hl7 ha7 hrow7; (try (refine cutP (p := W7.heap[w2.heap.size]? = some (.cells #[.slice none 0 0, .slice none 0 0] 25 (0, 0))) ?_ ?_; (· with_reducible refine at_lays HL7.out ?_ ?_; (· ((repeat (first | (with_reducible refine at_hit ?_; (· ((try have f3a := HL3.out.size); (try have f3b := HL3.out.which); (try have f3c := HL3.out.here); (try have f3d := HL3.out.new); (try simp at f3a); (try simp at f3b); (try have f7a := HL7.out.size); (try have f7b := HL7.out.which); (try have f7c := HL7.out.here); (try have f7d := HL7.out.new); (try simp at f7a); (try simp at f7b); first | omega | (simp [size_drew]; done) | (simp [size_drew]; omega)))) | with_reducible apply at_drew | (with_reducible refine at_miss ?_ ?_; rotate_left; (· ((try have f3a := HL3.out.size); (try have f3b := HL3.out.which); (try have f3c := HL3.out.here); (try have f3d := HL3.out.new); (try simp at f3a); (try simp at f3b); (try have f7a := HL7.out.size); (try have f7b := HL7.out.which); (try have f7c := HL7.out.here); (try have f7d := HL7.out.new); (try simp at f7a); (try simp at f7b); first | omega | (simp [size_drew]; done) | (simp [size_drew]; omega)))) | (with_reducible refine at_lays HL3.out ?_ ?_; rotate_left; (· ((try have f3a := HL3.out.size); (try have f3b := HL3.out.which); (try have f3c := HL3.out.here); (try have f3d := HL3.out.new); (try simp at f3a); (try simp at f3b); (try have f7a := HL7.out.size); (try have f7b := HL7.out.which); (try have f7c := HL7.out.here); (try have f7d := HL7.out.new); (try simp at f7a); (try simp at f7b); first | omega | (simp [size_drew]; done) | (simp [size_drew]; omega)))))); done)); (· ((try have f3a := HL3.out.size); (try have f3b := HL3.out.which); (try have f3c := HL3.out.here); (try have f3d := HL3.out.new); (try simp at f3a); (try simp at f3b); (try have f7a := HL7.out.size); (try have f7b := HL7.out.which); (try have f7c := HL7.out.here); (try have f7d := HL7.out.new); (try simp at f7a); (try simp at f7b); first | omega | (simp [size_drew]; done) | (simp [size_drew]; omega)))); intro hb9; refine cutP (p := w2.heap.size ≠ r7) ?_ ?_; (· ((try have f3a := HL3.out.size); (try have f3b := HL3.out.which); (try have f3c := HL3.out.here); (try have f3d := HL3.out.new); (try simp at f3a); (try simp at f3b); (try have f7a := HL7.out.size); (try have f7b := HL7.out.which); (try have f7c := HL7.out.here); (try have f7d := HL7.out.new); (try simp at f7a); (try simp at f7b); first | omega | (simp [size_drew]; done) | (simp [size_drew]; omega))); intro hr9; refine cutP (p := w.heap.size ≠ w2.heap.size) ?_ ?_; (· (try have := HL3.out.kept.size); omega); intro hn9; have hbb : Blk W7 (w2.heap.size) 25 #[.slice none 0 0, .slice none 0 0] := hb9; have x0 := hbb.cell 0; have x1 := hbb.cell 1; have y0 := hbb.frozen 0; have y1 := hbb.frozen 1; have hlt9 := hbb.lt; simp at x0 x1; have HB9 := Lib.hid hbb; have HR9 := Lib.hid hr9; clear hb9 hbb hr9)); (try (refine cutP (p := W7.heap[w2.heap.size + 1]? = some (.cells #[.slice none 0 0, .slice none 0 0] 25 (0, 0))) ?_ ?_; (· with_reducible refine at_lays HL7.out ?_ ?_; (· ((repeat (first | (with_reducible refine at_hit ?_; (· ((try have f3a := HL3.out.size); (try have f3b := HL3.out.which); (try have f3c := HL3.out.here); (try have f3d := HL3.out.new); (try simp at f3a); (try simp at f3b); (try have f7a := HL7.out.size); (try have f7b := HL7.out.which); (try have f7c := HL7.out.here); (try have f7d := HL7.out.new); (try simp at f7a); (try simp at f7b); first | omega | (simp [size_drew]; done) | (simp [size_drew]; omega)))) | with_reducible apply at_drew | (with_reducible refine at_miss ?_ ?_; rotate_left; (· ((try have f3a := HL3.out.size); (try have f3b := HL3.out.which); (try have f3c := HL3.out.here); (try have f3d := HL3.out.new); (try simp at f3a); (try simp at f3b); (try have f7a := HL7.out.size); (try have f7b := HL7.out.which); (try have f7c := HL7.out.here); (try have f7d := HL7.out.new); (try simp at f7a); (try simp at f7b); first | omega | (simp [size_drew]; done) | (simp [size_drew]; omega)))) | (with_reducible refine at_lays HL3.out ?_ ?_; rotate_left; (· ((try have f3a := HL3.out.size); (try have f3b := HL3.out.which); (try have f3c := HL3.out.here); (try have f3d := HL3.out.new); (try simp at f3a); (try simp at f3b); (try have f7a := HL7.out.size); (try have f7b := HL7.out.which); (try have f7c := HL7.out.here); (try have f7d := HL7.out.new); (try simp at f7a); (try simp at f7b); first | omega | (simp [size_drew]; done) | (simp [size_drew]; omega)))))); done)); (· ((try have f3a := HL3.out.size); (try have f3b := HL3.out.which); (try have f3c := HL3.out.here); (try have f3d := HL3.out.new); (try simp at f3a); (try simp at f3b); (try have f7a := HL7.out.size); (try have f7b := HL7.out.which); (try have f7c := HL7.out.here); (try have f7d := HL7.out.new); (try simp at f7a); (try simp at f7b); first | omega | (simp [size_drew]; done) | (simp [size_drew]; omega)))); intro hb9; refine cutP (p := w2.heap.size + 1 ≠ r7) ?_ ?_; (· ((try have f3a := HL3.out.size); (try have f3b := HL3.out.which); (try have f3c := HL3.out.here); (try have f3d := HL3.out.new); (try simp at f3a); (try simp at f3b); (try have f7a := HL7.out.size); (try have f7b := HL7.out.which); (try have f7c := HL7.out.here); (try have f7d := HL7.out.new); (try simp at f7a); (try simp at f7b); first | omega | (simp [size_drew]; done) | (simp [size_drew]; omega))); intro hr9; refine cutP (p := w.heap.size ≠ w2.heap.size + 1) ?_ ?_; (· (try have := HL3.out.kept.size); omega); intro hn9; have hbb : Blk W7 (w2.heap.size + 1) 25 #[.slice none 0 0, .slice none 0 0] := hb9; have x0 := hbb.cell 0; have x1 := hbb.cell 1; have y0 := hbb.frozen 0; have y1 := hbb.frozen 1; have hlt9 := hbb.lt; simp at x0 x1; have HB9 := Lib.hid hbb; have HR9 := Lib.hid hr9; clear hb9 hbb hr9)); (try (refine cutP (p := W7.heap[w2.heap.size + 1 + 1]? = some (.cells #[.slice none 0 0, .slice none 0 0] 25 (0, 0))) ?_ ?_; (· with_reducible refine at_lays HL7.out ?_ ?_; (· ((repeat (first | (with_reducible refine at_hit ?_; (· ((try have f3a := HL3.out.size); (try have f3b := HL3.out.which); (try have f3c := HL3.out.here); (try have f3d := HL3.out.new); (try simp at f3a); (try simp at f3b); (try have f7a := HL7.out.size); (try have f7b := HL7.out.which); (try have f7c := HL7.out.here); (try have f7d := HL7.out.new); (try simp at f7a); (try simp at f7b); first | omega | (simp [size_drew]; done) | (simp [size_drew]; omega)))) | with_reducible apply at_drew | (with_reducible refine at_miss ?_ ?_; rotate_left; (· ((try have f3a := HL3.out.size); (try have f3b := HL3.out.which); (try have f3c := HL3.out.here); (try have f3d := HL3.out.new); (try simp at f3a); (try simp at f3b); (try have f7a := HL7.out.size); (try have f7b := HL7.out.which); (try have f7c := HL7.out.here); (try have f7d := HL7.out.new); (try simp at f7a); (try simp at f7b); first | omega | (simp [size_drew]; done) | (simp [size_drew]; omega)))) | (with_reducible refine at_lays HL3.out ?_ ?_; rotate_left; (· ((try have f3a := HL3.out.size); (try have f3b := HL3.out.which); (try have f3c := HL3.out.here); (try have f3d := HL3.out.new); (try simp at f3a); (try simp at f3b); (try have f7a := HL7.out.size); (try have f7b := HL7.out.which); (try have f7c := HL7.out.here); (try have f7d := HL7.out.new); (try simp at f7a); (try simp at f7b); first | omega | (simp [size_drew]; done) | (simp [size_drew]; omega)))))); done)); (· ((try have f3a := HL3.out.size); (try have f3b := HL3.out.which); (try have f3c := HL3.out.here); (try have f3d := HL3.out.new); (try simp at f3a); (try simp at f3b); (try have f7a := HL7.out.size); (try have f7b := HL7.out.which); (try have f7c := HL7.out.here); (try have f7d := HL7.out.new); (try simp at f7a); (try simp at f7b); first | omega | (simp [size_drew]; done) | (simp [size_drew]; omega)))); intro hb9; refine cutP (p := w2.heap.size + 1 + 1 ≠ r7) ?_ ?_; (· ((try have f3a := HL3.out.size); (try have f3b := HL3.out.which); (try have f3c := HL3.out.here); (try have f3d := HL3.out.new); (try simp at f3a); (try simp at f3b); (try have f7a := HL7.out.size); (try have f7b := HL7.out.which); (try have f7c := HL7.out.here); (try have f7d := HL7.out.new); (try simp at f7a); (try simp at f7b); first | omega | (simp [size_drew]; done) | (simp [size_drew]; omega))); intro hr9; refine cutP (p := w.heap.size ≠ w2.heap.size + 1 + 1) ?_ ?_; (· (try have := HL3.out.kept.size); omega); intro hn9; have hbb : Blk W7 (w2.heap.size + 1 + 1) 25 #[.slice none 0 0, .slice none 0 0] := hb9; have x0 := hbb.cell 0; have x1 := hbb.cell 1; have y0 := hbb.frozen 0; have y1 := hbb.frozen 1; have hlt9 := hbb.lt; simp at x0 x1; have HB9 := Lib.hid hbb; have HR9 := Lib.hid hr9; clear hb9 hbb hr9)); (try (refine cutP (p := W7.heap[W3.heap.size]? = some (.cells #[.slice none 0 0, .slice none 0 0] 25 (0, 0))) ?_ ?_; (· with_reducible refine at_lays HL7.out ?_ ?_; (· ((repeat (first | (with_reducible refine at_hit ?_; (· ((try have f3a := HL3.out.size); (try have f3b := HL3.out.which); (try have f3c := HL3.out.here); (try have f3d := HL3.out.new); (try simp at f3a); (try simp at f3b); (try have f7a := HL7.out.size); (try have f7b := HL7.out.which); (try have f7c := HL7.out.here); (try have f7d := HL7.out.new); (try simp at f7a); (try simp at f7b); first | omega | (simp [size_drew]; done) | (simp [size_drew]; omega)))) | with_reducible apply at_drew | (with_reducible refine at_miss ?_ ?_; rotate_left; (· ((try have f3a := HL3.out.size); (try have f3b := HL3.out.which); (try have f3c := HL3.out.here); (try have f3d := HL3.out.new); (try simp at f3a); (try simp at f3b); (try have f7a := HL7.out.size); (try have f7b := HL7.out.which); (try have f7c := HL7.out.here); (try have f7d := HL7.out.new); (try simp at f7a); (try simp at f7b); first | omega | (simp [size_drew]; done) | (simp [size_drew]; omega)))) | (with_reducible refine at_lays HL3.out ?_ ?_; rotate_left; (· ((try have f3a := HL3.out.size); (try have f3b := HL3.out.which); (try have f3c := HL3.out.here); (try have f3d := HL3.out.new); (try simp at f3a); (try simp at f3b); (try have f7a := HL7.out.size); (try have f7b := HL7.out.which); (try have f7c := HL7.out.here); (try have f7d := HL7.out.new); (try simp at f7a); (try simp at f7b); first | omega | (simp [size_drew]; done) | (simp [size_drew]; omega)))))); done)); (· ((try have f3a := HL3.out.size); (try have f3b := HL3.out.which); (try have f3c := HL3.out.here); (try have f3d := HL3.out.new); (try simp at f3a); (try simp at f3b); (try have f7a := HL7.out.size); (try have f7b := HL7.out.which); (try have f7c := HL7.out.here); (try have f7d := HL7.out.new); (try simp at f7a); (try simp at f7b); first | omega | (simp [size_drew]; done) | (simp [size_drew]; omega)))); intro hb9; refine cutP (p := W3.heap.size ≠ r7) ?_ ?_; (· ((try have f3a := HL3.out.size); (try have f3b := HL3.out.which); (try have f3c := HL3.out.here); (try have f3d := HL3.out.new); (try simp at f3a); (try simp at f3b); (try have f7a := HL7.out.size); (try have f7b := HL7.out.which); (try have f7c := HL7.out.here); (try have f7d := HL7.out.new); (try simp at f7a); (try simp at f7b); first | omega | (simp [size_drew]; done) | (simp [size_drew]; omega))); intro hr9; refine cutP (p := w.heap.size ≠ W3.heap.size) ?_ ?_; (· (try have := HL3.out.kept.size); omega); intro hn9; have hbb : Blk W7 (W3.heap.size) 25 #[.slice none 0 0, .slice none 0 0] := hb9; have x0 := hbb.cell 0; have x1 := hbb.cell 1; have y0 := hbb.frozen 0; have y1 := hbb.frozen 1; have hlt9 := hbb.lt; simp at x0 x1; have HB9 := Lib.hid hbb; have HR9 := Lib.hid hr9; clear hb9 hbb hr9)); (try (refine cutP (p := W7.heap[W3.heap.size + 1]? = some (.cells #[.slice none 0 0, .slice none 0 0] 25 (0, 0))) ?_ ?_; (· with_reducible refine at_lays HL7.out ?_ ?_; (· ((repeat (first | (with_reducible refine at_hit ?_; (· ((try have f3a := HL3.out.size); (try have f3b := HL3.out.which); (try have f3c := HL3.out.here); (try have f3d := HL3.out.new); (try simp at f3a); (try simp at f3b); (try have f7a := HL7.out.size); (try have f7b := HL7.out.which); (try have f7c := HL7.out.here); (try have f7d := HL7.out.new); (try simp at f7a); (try simp at f7b); first | omega | (simp [size_drew]; done) | (simp [size_drew]; omega)))) | with_reducible apply at_drew | (with_reducible refine at_miss ?_ ?_; rotate_left; (· ((try have f3a := HL3.out.size); (try have f3b := HL3.out.which); (try have f3c := HL3.out.here); (try have f3d := HL3.out.new); (try simp at f3a); (try simp at f3b); (try have f7a := HL7.out.size); (try have f7b := HL7.out.which); (try have f7c := HL7.out.here); (try have f7d := HL7.out.new); (try simp at f7a); (try simp at f7b); first | omega | (simp [size_drew]; done) | (simp [size_drew]; omega)))) | (with_reducible refine at_lays HL3.out ?_ ?_; rotate_left; (· ((try have f3a := HL3.out.size); (try have f3b := HL3.out.which); (try have f3c := HL3.out.here); (try have f3d := HL3.out.new); (try simp at f3a); (try simp at f3b); (try have f7a := HL7.out.size); (try have f7b := HL7.out.which); (try have f7c := HL7.out.here); (try have f7d := HL7.out.new); (try simp at f7a); (try simp at f7b); first | omega | (simp [size_drew]; done) | (simp [size_drew]; omega)))))); done)); (· ((try have f3a := HL3.out.size); (try have f3b := HL3.out.which); (try have f3c := HL3.out.here); (try have f3d := HL3.out.new); (try simp at f3a); (try simp at f3b); (try have f7a := HL7.out.size); (try have f7b := HL7.out.which); (try have f7c := HL7.out.here); (try have f7d := HL7.out.new); (try simp at f7a); (try simp at f7b); first | omega | (simp [size_drew]; done) | (simp [size_drew]; omega)))); intro hb9; refine cutP (p := W3.heap.size + 1 ≠ r7) ?_ ?_; (· ((try have f3a := HL3.out.size); (try have f3b := HL3.out.which); (try have f3c := HL3.out.here); (try have f3d := HL3.out.new); (try simp at f3a); (try simp at f3b); (try have f7a := HL7.out.size); (try have f7b := HL7.out.which); (try have f7c := HL7.out.here); (try have f7d := HL7.out.new); (try simp at f7a); (try simp at f7b); first | omega | (simp [size_drew]; done) | (simp [size_drew]; omega))); intro hr9; refine cutP (p := w.heap.size ≠ W3.heap.size + 1) ?_ ?_; (· (try have := HL3.out.kept.size); omega); intro hn9; have hbb : Blk W7 (W3.heap.size + 1) 25 #[.slice none 0 0, .slice none 0 0] := hb9; have x0 := hbb.cell 0; have x1 := hbb.cell 1; have y0 := hbb.frozen 0; have y1 := hbb.frozen 1; have hlt9 := hbb.lt; simp at x0 x1; have HB9 := Lib.hid hbb; have HR9 := Lib.hid hr9; clear hb9 hbb hr9)))
            | fail)
        all_goals (go_wp2_with fail; go_meet; (first | exact H2T.out.late H2.out.roots.1 | (refine H2T.out.early H2.out.roots.1 HB9.out ?_ HR9.out; ((try have f3a := HL3.out.size); (try have f3b := HL3.out.which); (try have f3c := HL3.out.here); (try have f3d := HL3.out.new); (try simp at f3a); (try simp at f3b); (try have f7a := HL7.out.size); (try have f7b := HL7.out.which); (try have f7c := HL7.out.here); (try have f7d := HL7.out.new); (try simp at f7a); (try simp at f7b); first | omega | (simp [size_drew]; done) | (simp [size_drew]; omega)))))
      case rest =>
        obtain ⟨B, NB, rfl, hrel0⟩ := BRel.start (rn := rn) HM2.out HO2.out K2.out HOK.out (fun o ho => (HQ.out o ho).1) HCK.out hlen (by omega) (by rw [H2.out.roots.1]; exact Nat.le_refl _) hcut
        have kc : Kept (fun _ => False) w2 wc := by obtain ⟨_, _, _, _, _, _, _, _, _, _, _, _, _, _, _, _, _, hk⟩ := hcut; exact hk
        have KC : Hid (Kept (fun _ => False) w1 wc) := K2.out.trans kc (fun _ _ h => h)
        have hbc := HBX.out.kept KC.out (by simp)
        have f0 := hbc.cell 0
        simp at f0
        have HR0 := Lib.hid hrel0
        obtain ⟨i0, hi0, hz0, hz1, hz2⟩ := info_parts Try.info3
        have hmk := run_makeSlice (P := Try.prog) wc 23 3 i0 (.int .i64 0) Try.underlying23 hi0 hz0 .i64 .i64 (on : Int) (on : Int) (by omega) (Int.le_refl _) (by rw [hz1]; simp; omega) (by rw [hz2]; omega) (by omega)
        rw [hz1, Int.toNat_natCast, Nat.mul_one] at hmk
        simp only [Value.cells] at hmk
        clear hcut kc hrel0 d0 d1 HKS
        obtain ⟨C, hC⟩ : ∃ C, C = wc.heap.size := ⟨_, rfl⟩
        rw [← hC] at HR0 hmk
        have K5 : Hid (Kept (fun _ => False) w1 (wc.alloc (.cells (madeCells #[.int .i64 0] on) 3))) := KC.out.trans ((Kept.refl _ wc).alloc _) (fun _ _ h => h)
        clear hi0 hz0 hz1 hz2 hbc hC
        go_wp2
        go_loopw [9] (fun i wr => ∃ k : Nat, k ≤ ln ∧ i = .int .i64 (k : Int) ∧ BRel w1 wr g B NB C on rn os k) (fun i _ => ln - (intOf i).toNat)
        case atStart => exact ⟨0, Nat.zero_le _, rfl, HR0.out⟩
        case round =>
          obtain ⟨k, hk, rfl, hrel⟩ := hrel
          clear HR0 K5
          obtain ⟨ow', lw, nc, rA', rc', m, os', rs', cs, hB, hP⟩ := hrel
          have kr := hB.kept
          have hbr := HBX.out.kept kr (by simp)
          have r0 := hbr.cell 0
          simp at r0
          have hbrl := hbr.lt
          have hxl := HX.out.len
          by_cases hlt : k < ln
          · obtain ⟨b, off, hA, hbl, hcells⟩ := HX.out.at_ (by omega)
            obtain ⟨p0, p1, p2⟩ := hcells k _ (List.getElem?_eq_getElem (by omega))
            have hint := HX.out.ints _ (List.getElem_mem (by omega : k < xs.length))
            generalize xs[k]'(by omega) = x at *
            obtain ⟨kd, a, y⟩ := x
            simp only at p0 p1 p2 hint
            have kwr : Kept (fun _ => False) w wr := K1.out.trans kr (fun _ _ h => h)
            have e0 := (kwr.cell (p := ⟨b, off + k * 3, none⟩) hbl (by simp)).trans p0
            have e1 := (kwr.cell (p := ⟨b, off + k * 3 + 1, none⟩) hbl (by simp)).trans p1
            have e2 := (kwr.cell (p := ⟨b, off + k * 3 + 2, none⟩) hbl (by simp)).trans p2
            subst hA
            have b0 : (0 : Int) ≤ (k : Int) := by omega
            have b1 : (k : Int) < (ln : Int) := by omega
            have HB := Lib.hid hB
            have HP := Lib.hid hP
            have HI := Lib.hid hint
            have hkk : k < 100 := by omega
            clear hcells p0 p1 p2 kwr hB hP hint kr hbr hxl hbl
            go_upto_block 2 with fail
            obtain ⟨V, hV⟩ : ∃ V, V = wr.alloc (.cells #[.int .i64 kd, .int .i64 a, .int .i64 y] 47) := ⟨_, rfl⟩
            have kV : Kept (fun _ => False) wr V := by rw [hV]; exact (Kept.refl _ wr).alloc _
            have hBV : Blk V wr.heap.size 47 #[.int .i64 kd, .int .i64 a, .int .i64 y] := by rw [hV]; exact Blk.new wr 47 _
            rw [← hV]
            obtain ⟨X, hX⟩ : ∃ X, X = wr.heap.size := ⟨_, rfl⟩
            rw [← hX] at hBV ⊢
            have hXo : ¬ Own ow' X := by rw [hX]; intro hh; have := HB.out.mm.lt _ hh; omega
            have hXlw : ¬ Own lw X := by rw [hX]; intro hh; have := (HB.out.lown _ hh).2.1; omega
            have v0 := hBV.cell 0
            have v1 := hBV.cell 1
            have v2 := hBV.cell 2
            simp at v0 v1 v2
            have hXl := hBV.lt
            have HBV := Lib.hid (HB.out.later kV)
            have HXB := Lib.hid hBV
            clear hV hX kV hBV e0 e1 e2 r0 hbrl HB
            go_cut [11] (fun _ wx => BRel w1 wx g B NB C on rn os (k + 1))
            case first =>
              have hFew : Few m := HP.out.few HBV.out.ok (by rw [HBV.out.len]; omega)
              by_cases h0 : kd = 0
              · have t0 : (kd == 0) = true := by simp [h0]
                have HST := Lib.hid (fun n => m_step HP.out.good hFew HBV.out.mm n)
                clear hFew h0
                go_wp2_with fail
                all_goals
                  refine (HST.out _).mono ?_
                  rintro e w3 ⟨rfl, hpost⟩
                  have HN : Hid (BRel w1 w3 g B NB C on rn os (k + 1)) := by
                    obtain ⟨ow3, hB3⟩ := HBV.out.marked hpost
                    exact ⟨ow3, lw, nc, rA', rc', _, os', rs', cs, hB3, (HP.out.steps _).up⟩
                  clear hpost
                  go_wp2
                  go_meet
                  exact HN.out
              have t0 : (kd == 0) = false := by simp [h0]
              have hqb : m.queue.length ≤ 1000 := by have h1 := HP.out.good.few; have h2 := HP.out.len; have h3 := HBV.out.len; omega
              by_cases h1 : kd = 1
              · have t1 : (kd == 1) = true := by simp [h1]
                clear h1 h0
                by_cases hex : Mk.colOf m.nodes a ≠ none ∧ Mk.colOf m.nodes y ≠ none
                · obtain ⟨hca, hcy⟩ := hex
                  obtain ⟨i, o, hoi, hoa⟩ := HP.out.found hca
                  have HWR := Lib.hid (m_write_ok HP.out.good HBV.out.mm HI.out.1 HI.out.2 hca hcy hqb (hFew.2 a).1)
                  clear hFew
                  go_wp2_with fail
                  refine HWR.out.mono ?_
                  rintro e w3 ⟨rfl, hpost⟩
                  have hpk : Kept (fun k => Own ow' k) V w3 := by obtain ⟨_, _, hk, _⟩ := hpost; exact hk
                  obtain ⟨ow3, hB3⟩ := HBV.out.marked hpost
                  have u1 := (hpk.cell (p := ⟨X, 1, none⟩) hXl hXo).trans v1
                  have u2 := (hpk.cell (p := ⟨X, 2, none⟩) hXl hXo).trans v2
                  have hXl3 : X < w3.heap.size := Nat.lt_of_lt_of_le hXl hpk.size
                  have z0 := hB3.box.cell 0
                  have z1 := hB3.box.cell 1
                  simp at z0 z1
                  have hBl3 := hB3.box.lt
                  have HF := Lib.hid (find_any (some ⟨NB, 0, none⟩) rA' on nc rs'.length rc' os' a w3 hB3.objsAt (by omega) HP.out.asc)
                  have HB3 := Lib.hid hB3
                  clear hpost hB3 hpk HWR
                  go_wp2_with fail
                  refine HF.out.mono ?_
                  rintro e w4 ⟨r, rfl, hfi, k4⟩
                  have hr : r = (i : Int) := by rw [← hoa] at hfi; exact FindIs.at2 HP.out.asc hoi hfi
                  subst hr
                  have HB4 := Lib.hid (HB3.out.later k4)
                  have u4 := (k4.cell (p := ⟨X, 2, none⟩) hXl3 (by simp)).trans u2
                  have z4 := (k4.cell (p := ⟨B, 0, none⟩) hBl3 (by simp)).trans z0
                  have hi0 : ¬ (i : Int) < 0 := by omega
                  have hio : i < on := by have := (List.getElem?_eq_some_iff.1 hoi).1; have := HB4.out.len; omega
                  have k4s := k4.size
                  clear hfi k4 HF z0 z1 u1 u2
                  have hok4 := HB4.out.ok o (List.mem_of_getElem? hoi)
                  obtain ⟨hNB1, hNB2, hNB3⟩ := HB4.out.lown NB ⟨_, HB4.out.t1⟩
                  have hNBl : NB < w4.heap.size := hNB2
                  have hBl4 := HB4.out.box.lt
                  have hXl4 : X < w4.heap.size := Nat.lt_of_lt_of_le hXl3 k4s
                  have hBN : B ≠ NB := fun e => by have h1 := HB4.out.t0; rw [e, HB4.out.t1] at h1; injection h1; omega
                  have hXN : X ≠ NB := fun e => hXlw ⟨_, by rw [e]; exact HB4.out.t1⟩
                  have hcn : w4.cell? ⟨NB, i * 5 + 3, none⟩ = some (.slice o.rA o.refs.length o.rc) := by
                    obtain ⟨bb, oo, eA, _, hc⟩ := HB4.out.objsAt.at_ (by omega)
                    injection eA with eA
                    injection eA with eA1 eA2 _
                    subst eA1 eA2
                    have := (hc i o hoi).2.2.2.1
                    rw [Nat.zero_add] at this
                    exact this
                  have hfn : w4.frozen? ⟨NB, i * 5 + 3, none⟩ = false := by
                    obtain ⟨cur, hcur, _⟩ := HB4.out.objs
                    exact frozen_of_row w4 NB _ cur 39 hcur
                  have HCN : Hid (∀ w', Kept (fun _ => False) w4 w' → w'.cell? ⟨NB, i * 5 + 3, none⟩ = some (.slice o.rA o.refs.length o.rc)) := fun w' k' => (k'.cell (p := ⟨NB, i * 5 + 3, none⟩) hNBl (by simp)).trans hcn
                  have HFN : Hid (∀ w', Kept (fun _ => False) w4 w' → w'.frozen? ⟨NB, i * 5 + 3, none⟩ = false) := fun w' k' => (World.frozen?_of_block (k'.block NB hNBl (by simp))).trans hfn
                  have HKS2 : Hid (∀ w', Kept (fun _ => False) w4 w' → w'.cell? ⟨B, 0, none⟩ = some (.slice (some ⟨NB, 0, none⟩) on nc) ∧ w'.cell? ⟨X, 2, none⟩ = some (.int .i64 y)) := fun w' k' => ⟨(k'.cell (p := ⟨B, 0, none⟩) hBl4 (by simp)).trans z4, (k'.cell (p := ⟨X, 2, none⟩) hXl4 (by simp)).trans u4⟩
                  have HSO := Lib.hid hok4.rsrc
                  have HNO : Hid (o.rA = none → o.refs.length = 0) := fun e => (hok4.rnil e).1
                  have hrl4 : o.refs.length ≤ 140 := by have := HP.out.refs o (List.mem_of_getElem? hoi); omega
                  have HOI := Lib.hid hoi
                  have HOA' := Lib.hid hoa
                  have HIY := Lib.hid HI.out.2
                  obtain ⟨rl, hrl⟩ : ∃ rl, rl = o.refs.length := ⟨_, rfl⟩
                  have HRL := Lib.hid hrl
                  rw [← hrl] at HCN HSO HNO hrl4 hcn
                  have bi0 : (0 : Int) ≤ (i : Int) := by omega
                  have bi1 : (i : Int) < (on : Int) := by omega
                  clear hrl hoi hoa hok4 hNB1 hNB2 hNB3
                  go_upto_region 22 with fail
                  have HKS3 : Hid (∀ w', Kept (fun _ => False) w4 w' → w'.cell? ⟨B, 0, none⟩ = some (.slice (some ⟨NB, 0, none⟩) on nc) ∧ w'.cell? ⟨X, 2, none⟩ = some (.int .i64 y) ∧ w'.cell? ⟨NB, i * 5 + 3, none⟩ = some (.slice o.rA rl o.rc)) := fun w' k' => ⟨(HKS2.out w' k').1, (HKS2.out w' k').2, HCN.out w' k'⟩
                  refine wp_region_noPanic ?_
                  refine wp_region_B (S := fun w' => w'.cell? ⟨B, 0, none⟩ = some (.slice (some ⟨NB, 0, none⟩) on nc) ∧ w'.cell? ⟨X, 2, none⟩ = some (.int .i64 y) ∧ w'.cell? ⟨NB, i * 5 + 3, none⟩ = some (.slice o.rA rl o.rc)) (Br := fun j => j == 17) (by kernel_rfl) ?_
                  have hHeld := HKS3.out _ ((Kept.refl (fun _ => False) w4).drew)
                  refine wpAnyB_take (i := 0) (v := ?_) rfl (by kernel_rfl) (by kernel_rfl) (by kernel_rfl) (by kernel_rfl) (by rfl) (fun _ _ _ h => h) (Or.inl ⟨by rfl, ?_⟩) (by assumption) ?_
                  rotate_left
                  · (intro w hSw; (try dsimp only at hSw); obtain ⟨s1, s2, s3⟩ := hSw; go_simp; (try with_reducible rfl))
                  (try simp only [Act.put, List.setIfInBounds_toArray, List.set_cons_zero, List.set_cons_succ])
                  refine wpAnyB_take (i := 1) (v := ?_) rfl (by kernel_rfl) (by kernel_rfl) (by kernel_rfl) (by kernel_rfl) (by rfl) (fun _ _ _ h => h) (Or.inl ⟨by rfl, ?_⟩) (by assumption) ?_
                  rotate_left
                  · (intro w hSw; (try dsimp only at hSw); obtain ⟨s1, s2, s3⟩ := hSw; go_simp; (try with_reducible rfl))
                  (try simp only [Act.put, List.setIfInBounds_toArray, List.set_cons_zero, List.set_cons_succ])
                  refine wpAnyB_take (i := 2) (v := ?_) rfl (by kernel_rfl) (by kernel_rfl) (by kernel_rfl) (by kernel_rfl) (by rfl) (fun _ _ _ h => h) (Or.inl ⟨by rfl, ?_⟩) (by assumption) ?_
                  rotate_left
                  · (intro w hSw; (try dsimp only at hSw); obtain ⟨s1, s2, s3⟩ := hSw; go_simp; (try with_reducible rfl))
                  (try simp only [Act.put, List.setIfInBounds_toArray, List.set_cons_zero, List.set_cons_succ])
                  refine wpAnyB_take (i := 4) (v := ?_) rfl (by kernel_rfl) (by kernel_rfl) (by kernel_rfl) (by kernel_rfl) (by rfl) (fun _ _ _ h => h) (Or.inl ⟨by rfl, ?_⟩) (by assumption) ?_
                  rotate_left
                  · (intro w hSw; (try dsimp only at hSw); obtain ⟨s1, s2, s3⟩ := hSw; go_simp; (try with_reducible rfl))
                  (try simp only [Act.put, List.setIfInBounds_toArray, List.set_cons_zero, List.set_cons_succ])
                  refine wpAnyB_take (i := 5) (v := ?_) rfl (by kernel_rfl) (by kernel_rfl) (by kernel_rfl) (by kernel_rfl) (by rfl) (fun _ _ _ h => h) (Or.inl ⟨by rfl, ?_⟩) (by assumption) ?_
                  rotate_left
                  · (intro w hSw; (try dsimp only at hSw); obtain ⟨s1, s2, s3⟩ := hSw; go_simp; (try with_reducible rfl))
                  (try simp only [Act.put, List.setIfInBounds_toArray, List.set_cons_zero, List.set_cons_succ])
                  refine wpAnyB_take (i := 6) (v := ?_) rfl (by kernel_rfl) (by kernel_rfl) (by kernel_rfl) (by kernel_rfl) (by rfl) (fun _ _ _ h => h) (Or.inl ⟨by rfl, ?_⟩) (by assumption) ?_
                  rotate_left
                  · (intro w hSw; (try dsimp only at hSw); obtain ⟨s1, s2, s3⟩ := hSw; go_simp; (try with_reducible rfl))
                  (try simp only [Act.put, List.setIfInBounds_toArray, List.set_cons_zero, List.set_cons_succ])
                  refine wpAnyB_take (i := 7) (v := ?_) rfl (by kernel_rfl) (by kernel_rfl) (by kernel_rfl) (by kernel_rfl) (by rfl) (fun _ _ _ h => h) (Or.inl ⟨by rfl, ?_⟩) (by assumption) ?_
                  rotate_left
                  · (intro w hSw; (try dsimp only at hSw); obtain ⟨s1, s2, s3⟩ := hSw; go_simp; (try with_reducible rfl))
                  (try simp only [Act.put, List.setIfInBounds_toArray, List.set_cons_zero, List.set_cons_succ])
                  refine wpAnyB_take (i := 8) (v := ?_) rfl (by kernel_rfl) (by kernel_rfl) (by kernel_rfl) (by kernel_rfl) (by rfl) (fun _ _ _ h => h) (Or.inl ⟨by rfl, ?_⟩) (by assumption) ?_
                  rotate_left
                  · (intro w hSw; (try dsimp only at hSw); obtain ⟨s1, s2, s3⟩ := hSw; go_simp; (try with_reducible rfl))
                  (try simp only [Act.put, List.setIfInBounds_toArray, List.set_cons_zero, List.set_cons_succ])
                  refine wpAnyB_take (i := 9) (v := ?_) rfl (by kernel_rfl) (by kernel_rfl) (by kernel_rfl) (by kernel_rfl) (by rfl) (fun _ _ _ h => h) (Or.inl ⟨by rfl, ?_⟩) (by assumption) ?_
                  rotate_left
                  · (intro w hSw; (try dsimp only at hSw); obtain ⟨s1, s2, s3⟩ := hSw; go_simp; (try with_reducible rfl))
                  (try simp only [Act.put, List.setIfInBounds_toArray, List.set_cons_zero, List.set_cons_succ])
                  refine wpAnyB_take (i := 11) (v := ?_) rfl (by kernel_rfl) (by kernel_rfl) (by kernel_rfl) (by kernel_rfl) (by rfl) (fun _ _ _ h => h) (Or.inl ⟨by rfl, ?_⟩) (by assumption) ?_
                  rotate_left
                  · (intro w hSw; (try dsimp only at hSw); obtain ⟨s1, s2, s3⟩ := hSw; go_simp; (try with_reducible rfl))
                  (try simp only [Act.put, List.setIfInBounds_toArray, List.set_cons_zero, List.set_cons_succ])
                  refine wpAnyB_take (i := 12) (v := ?_) rfl (by kernel_rfl) (by kernel_rfl) (by kernel_rfl) (by kernel_rfl) (by rfl) (fun _ _ _ h => h) (Or.inl ⟨by rfl, ?_⟩) (by assumption) ?_
                  rotate_left
                  · (intro w hSw; (try dsimp only at hSw); obtain ⟨s1, s2, s3⟩ := hSw; go_simp; (try with_reducible rfl))
                  (try simp only [Act.put, List.setIfInBounds_toArray, List.set_cons_zero, List.set_cons_succ])
                  refine wpAnyB_ready (rs := [3, 13]) (by kernel_rfl) (by simp) ?_
                  intro j1 hj1
                  simp only [List.mem_cons, List.not_mem_nil, or_false] at hj1
                  rcases hj1 with rfl | rfl
                  · refine wpOp_run (i := 3) rfl (fun K hK => ?_)
                    go_simp
                    refine hK.out _ _ ⟨fun _ => HKS3.out _ (by repeat (first | with_reducible exact HL3.out.kept | with_reducible exact Kept.refl _ _ | with_reducible apply Kept.drew | with_reducible apply Kept.alloc)), ?_⟩
                    clear hK K hHeld
                    (try simp only [Act.put, List.setIfInBounds_toArray, List.set_cons_zero, List.set_cons_succ])
                    have hHeld := HKS3.out _ (by repeat (first | with_reducible exact HL3.out.kept | with_reducible exact Kept.refl _ _ | with_reducible apply Kept.drew | with_reducible apply Kept.alloc))
                    refine wpAnyB_ready (rs := [10, 13]) (by kernel_rfl) (by simp) ?_
                    intro j2 hj2
                    simp only [List.mem_cons, List.not_mem_nil, or_false] at hj2
                    rcases hj2 with rfl | rfl
                    · refine wpOp_run (i := 10) rfl (fun K hK => ?_)
                      refine step_copR (by rfl) (.tmp 95) (.tmp 101) (by rfl) (by rfl) w4 _ (by rfl) (by rfl) HSO.out HNO.out (by omega) (by repeat (first | with_reducible exact HL3.out.kept | with_reducible exact Kept.refl _ _ | with_reducible apply Kept.drew | with_reducible apply Kept.alloc)) (by ((repeat (first | (with_reducible refine at_hit ?_; (· ((try have f3a := HL3.out.size); (try have f3b := HL3.out.which); (try have f3c := HL3.out.here); (try have f3d := HL3.out.new); (try simp at f3a); (try simp at f3b); first | omega | (simp [size_drew]; done) | (simp [size_drew]; omega)))) | with_reducible apply at_drew | (with_reducible refine at_miss ?_ ?_; rotate_left; (· ((try have f3a := HL3.out.size); (try have f3b := HL3.out.which); (try have f3c := HL3.out.here); (try have f3d := HL3.out.new); (try simp at f3a); (try simp at f3b); first | omega | (simp [size_drew]; done) | (simp [size_drew]; omega)))) | (with_reducible refine at_lays HL3.out ?_ ?_; rotate_left; (· ((try have f3a := HL3.out.size); (try have f3b := HL3.out.which); (try have f3c := HL3.out.here); (try have f3d := HL3.out.new); (try simp at f3a); (try simp at f3b); first | omega | (simp [size_drew]; done) | (simp [size_drew]; omega)))))); done)) (by ((try have f3a := HL3.out.size); (try have f3b := HL3.out.which); (try have f3c := HL3.out.here); (try have f3d := HL3.out.new); (try simp at f3a); (try simp at f3b); first | omega | (simp [size_drew]; done) | (simp [size_drew]; omega))) ?_
                      intro A10 c10 W10 r10 hl10 ha10 hrow10
                      have HL3 := Lib.hid hl10
                      have HA10 := Lib.hid ha10
                      have HROW := Lib.hid hrow10
                      clear hl10 ha10 hrow10
                      refine hK.out _ _ ⟨fun _ => HKS3.out _ HL3.out.kept, ?_⟩
                      clear hK K hHeld
                      (try simp only [Act.put, List.setIfInBounds_toArray, List.set_cons_zero, List.set_cons_succ])
                      have hHeld := HKS3.out _ HL3.out.kept
                      refine wpAnyB_ready (rs := [13]) (by kernel_rfl) (by simp) ?_
                      intro j3 hj3
                      simp only [List.mem_cons, List.not_mem_nil, or_false] at hj3
                      rcases hj3 with rfl
                      refine wpOp_run (i := 13) rfl (fun K hK => ?_)
                      go_simp
                      refine hK.out _ _ ⟨fun _ => HKS3.out _ (by repeat (first | with_reducible exact HL3.out.kept | with_reducible exact Kept.refl _ _ | with_reducible apply Kept.drew | with_reducible apply Kept.alloc)), ?_⟩
                      clear hK K hHeld
                      (try simp only [Act.put, List.setIfInBounds_toArray, List.set_cons_zero, List.set_cons_succ])
                      have hHeld := HKS3.out _ (by repeat (first | with_reducible exact HL3.out.kept | with_reducible exact Kept.refl _ _ | with_reducible apply Kept.drew | with_reducible apply Kept.alloc))
                      refine wpAnyB_ready (rs := [14]) (by kernel_rfl) (by simp) ?_
                      intro j4 hj4
                      simp only [List.mem_cons, List.not_mem_nil, or_false] at hj4
                      rcases hj4 with rfl
                      refine wpOp_run (i := 14) rfl (fun K hK => ?_)
                      refine step_add (by rfl) (.tmp 102) (.tmp 105) (by rfl) (by rfl) w4 (by rfl) (by rfl) (by first | with_reducible exact HROW.out | exact HROW.out.kept ((Kept.refl (fun _ => False) _).alloc _) (by simp)) (by ((repeat (first | (with_reducible refine at_hit ?_; (· ((try have f3a := HL3.out.size); (try have f3b := HL3.out.which); (try have f3c := HL3.out.here); (try have f3d := HL3.out.new); (try simp at f3a); (try simp at f3b); first | omega | (simp [size_drew]; done) | (simp [size_drew]; omega)))) | with_reducible apply at_drew | (with_reducible refine at_miss ?_ ?_; rotate_left; (· ((try have f3a := HL3.out.size); (try have f3b := HL3.out.which); (try have f3c := HL3.out.here); (try have f3d := HL3.out.new); (try simp at f3a); (try simp at f3b); first | omega | (simp [size_drew]; done) | (simp [size_drew]; omega)))) | (with_reducible refine at_lays HL3.out ?_ ?_; rotate_left; (· ((try have f3a := HL3.out.size); (try have f3b := HL3.out.which); (try have f3c := HL3.out.here); (try have f3d := HL3.out.new); (try simp at f3a); (try simp at f3b); first | omega | (simp [size_drew]; done) | (simp [size_drew]; omega)))))); done)) (by repeat (first | with_reducible exact HL3.out.kept | with_reducible exact Kept.refl _ _ | with_reducible apply Kept.drew | with_reducible apply Kept.alloc)) (fun r hr => by rw [HA10.out] at hr; injection hr with hr; rw [← hr]; exact HL3.out.new) (by omega) ?_
                      intro A14 c14 W14 hrow14 hfr14 hk14
                      have n1 := HCN.out _ hk14
                      have n2 := HFN.out _ hk14
                      have hNl14 : NB < W14.heap.size := Nat.lt_of_lt_of_le hNBl hk14.size
                      have HK14 := Lib.hid hk14
                      have HN : Hid (BRel w1 (W14.setCell ⟨NB, i * 5 + 3, none⟩ (.slice A14 (rl + 1) c14)) g B NB C on rn os (k + 1)) := by
                        have hB5 := HB4.out.refd HOI.out (A := A14) (c := c14) (t := y) HIY.out (by rw [← HRL.out]; omega) hk14 (by rw [← HRL.out]; exact hrow14) hfr14
                        rw [← HRL.out] at hB5
                        have hP5 := HP.out.write HOI.out A14 c14 y
                        rw [HOA'.out] at hP5
                        exact ⟨ow3, lw, nc, rA', rc', _, _, rs', cs, hB5, hP5⟩
                      clear hrow14 hfr14 hk14
                      refine hK.out _ _ ⟨fun _ => HKS3.out _ HK14.out, ?_⟩
                      clear hK K hHeld
                      (try simp only [Act.put, List.setIfInBounds_toArray, List.set_cons_zero, List.set_cons_succ])
                      have hHeld := HKS3.out _ HK14.out
                      refine wpAnyB_ready (rs := [15]) (by kernel_rfl) (by simp) ?_
                      intro j15 hj15
                      simp only [List.mem_cons, List.not_mem_nil, or_false] at hj15
                      rcases hj15 with rfl
                      refine wpOp_run (i := 15) rfl (fun K hK => ?_)
                      go_simp
                      refine hK.out _ _ ⟨fun _ => hHeld, ?_⟩
                      clear hK K
                      (try simp only [Act.put, List.setIfInBounds_toArray, List.set_cons_zero, List.set_cons_succ])
                      refine wpAnyB_take (i := 16) (v := ?_) rfl (by kernel_rfl) (by kernel_rfl) (by kernel_rfl) (by kernel_rfl) (by rfl) (fun _ _ _ h => h) (Or.inl ⟨by rfl, ?_⟩) (by assumption) ?_
                      rotate_left
                      · (intro w hSw; (try dsimp only at hSw); obtain ⟨s1, s2, s3⟩ := hSw; go_simp; (try with_reducible rfl))
                      (try simp only [Act.put, List.setIfInBounds_toArray, List.set_cons_zero, List.set_cons_succ])
                      refine wpAnyB_ready (rs := [17]) (by kernel_rfl) (by simp) ?_
                      intro j17 hj17
                      simp only [List.mem_cons, List.not_mem_nil, or_false] at hj17
                      rcases hj17 with rfl
                      refine wpOp_run (i := 17) rfl (fun K hK => ?_)
                      go_simp
                      refine hK.out _ _ ⟨fun h => absurd h (by decide), ?_⟩
                      clear hK K hHeld
                      (try simp only [Act.put, List.setIfInBounds_toArray, List.set_cons_zero, List.set_cons_succ])
                      refine wpAnyB_done (by kernel_rfl) ?_ _
                      refine NoPanic.normal ?_
                      go_wp2_with fail
                      go_meet
                      exact HN.out
                    · refine wpOp_run (i := 13) rfl (fun K hK => ?_)
                      go_simp
                      refine hK.out _ _ ⟨fun _ => HKS3.out _ (by repeat (first | with_reducible exact HL3.out.kept | with_reducible exact Kept.refl _ _ | with_reducible apply Kept.drew | with_reducible apply Kept.alloc)), ?_⟩
                      clear hK K hHeld
                      (try simp only [Act.put, List.setIfInBounds_toArray, List.set_cons_zero, List.set_cons_succ])
                      have hHeld := HKS3.out _ (by repeat (first | with_reducible exact HL3.out.kept | with_reducible exact Kept.refl _ _ | with_reducible apply Kept.drew | with_reducible apply Kept.alloc))
                      refine wpAnyB_ready (rs := [10]) (by kernel_rfl) (by simp) ?_
                      intro j3 hj3
                      simp only [List.mem_cons, List.not_mem_nil, or_false] at hj3
                      rcases hj3 with rfl
                      refine wpOp_run (i := 10) rfl (fun K hK => ?_)
                      refine step_copR (by rfl) (.tmp 95) (.tmp 101) (by rfl) (by rfl) w4 _ (by rfl) (by rfl) HSO.out HNO.out (by omega) (by repeat (first | with_reducible exact HL3.out.kept | with_reducible exact Kept.refl _ _ | with_reducible apply Kept.drew | with_reducible apply Kept.alloc)) (by ((repeat (first | (with_reducible refine at_hit ?_; (· ((try have f3a := HL3.out.size); (try have f3b := HL3.out.which); (try have f3c := HL3.out.here); (try have f3d := HL3.out.new); (try simp at f3a); (try simp at f3b); first | omega | (simp [size_drew]; done) | (simp [size_drew]; omega)))) | with_reducible apply at_drew | (with_reducible refine at_miss ?_ ?_; rotate_left; (· ((try have f3a := HL3.out.size); (try have f3b := HL3.out.which); (try have f3c := HL3.out.here); (try have f3d := HL3.out.new); (try simp at f3a); (try simp at f3b); first | omega | (simp [size_drew]; done) | (simp [size_drew]; omega)))) | (with_reducible refine at_lays HL3.out ?_ ?_; rotate_left; (· ((try have f3a := HL3.out.size); (try have f3b := HL3.out.which); (try have f3c := HL3.out.here); (try have f3d := HL3.out.new); (try simp at f3a); (try simp at f3b); first | omega | (simp [size_drew]; done) | (simp [size_drew]; omega)))))); done)) (by ((try have f3a := HL3.out.size); (try have f3b := HL3.out.which); (try have f3c := HL3.out.here); (try have f3d := HL3.out.new); (try simp at f3a); (try simp at f3b); first | omega | (simp [size_drew]; done) | (simp [size_drew]; omega))) ?_
                      intro A10 c10 W10 r10 hl10 ha10 hrow10
                      have HL3 := Lib.hid hl10
                      have HA10 := Lib.hid ha10
                      have HROW := Lib.hid hrow10
                      clear hl10 ha10 hrow10
                      refine hK.out _ _ ⟨fun _ => HKS3.out _ HL3.out.kept, ?_⟩
                      clear hK K hHeld
                      (try simp only [Act.put, List.setIfInBounds_toArray, List.set_cons_zero, List.set_cons_succ])
                      have hHeld := HKS3.out _ HL3.out.kept
                      refine wpAnyB_ready (rs := [14]) (by kernel_rfl) (by simp) ?_
                      intro j4 hj4
                      simp only [List.mem_cons, List.not_mem_nil, or_false] at hj4
                      rcases hj4 with rfl
                      refine wpOp_run (i := 14) rfl (fun K hK => ?_)
                      refine step_add (by rfl) (.tmp 102) (.tmp 105) (by rfl) (by rfl) w4 (by rfl) (by rfl) (by first | with_reducible exact HROW.out | exact HROW.out.kept ((Kept.refl (fun _ => False) _).alloc _) (by simp)) (by ((repeat (first | (with_reducible refine at_hit ?_; (· ((try have f3a := HL3.out.size); (try have f3b := HL3.out.which); (try have f3c := HL3.out.here); (try have f3d := HL3.out.new); (try simp at f3a); (try simp at f3b); first | omega | (simp [size_drew]; done) | (simp [size_drew]; omega)))) | with_reducible apply at_drew | (with_reducible refine at_miss ?_ ?_; rotate_left; (· ((try have f3a := HL3.out.size); (try have f3b := HL3.out.which); (try have f3c := HL3.out.here); (try have f3d := HL3.out.new); (try simp at f3a); (try simp at f3b); first | omega | (simp [size_drew]; done) | (simp [size_drew]; omega)))) | (with_reducible refine at_lays HL3.out ?_ ?_; rotate_left; (· ((try have f3a := HL3.out.size); (try have f3b := HL3.out.which); (try have f3c := HL3.out.here); (try have f3d := HL3.out.new); (try simp at f3a); (try simp at f3b); first | omega | (simp [size_drew]; done) | (simp [size_drew]; omega)))))); done)) (by repeat (first | with_reducible exact HL3.out.kept | with_reducible exact Kept.refl _ _ | with_reducible apply Kept.drew | with_reducible apply Kept.alloc)) (fun r hr => by rw [HA10.out] at hr; injection hr with hr; rw [← hr]; exact HL3.out.new) (by omega) ?_
                      intro A14 c14 W14 hrow14 hfr14 hk14
                      have n1 := HCN.out _ hk14
                      have n2 := HFN.out _ hk14
                      have hNl14 : NB < W14.heap.size := Nat.lt_of_lt_of_le hNBl hk14.size
                      have HK14 := Lib.hid hk14
                      have HN : Hid (BRel w1 (W14.setCell ⟨NB, i * 5 + 3, none⟩ (.slice A14 (rl + 1) c14)) g B NB C on rn os (k + 1)) := by
                        have hB5 := HB4.out.refd HOI.out (A := A14) (c := c14) (t := y) HIY.out (by rw [← HRL.out]; omega) hk14 (by rw [← HRL.out]; exact hrow14) hfr14
                        rw [← HRL.out] at hB5
                        have hP5 := HP.out.write HOI.out A14 c14 y
                        rw [HOA'.out] at hP5
                        exact ⟨ow3, lw, nc, rA', rc', _, _, rs', cs, hB5, hP5⟩
                      clear hrow14 hfr14 hk14
                      refine hK.out _ _ ⟨fun _ => HKS3.out _ HK14.out, ?_⟩
                      clear hK K hHeld
                      (try simp only [Act.put, List.setIfInBounds_toArray, List.set_cons_zero, List.set_cons_succ])
                      have hHeld := HKS3.out _ HK14.out
                      refine wpAnyB_ready (rs := [15]) (by kernel_rfl) (by simp) ?_
                      intro j15 hj15
                      simp only [List.mem_cons, List.not_mem_nil, or_false] at hj15
                      rcases hj15 with rfl
                      refine wpOp_run (i := 15) rfl (fun K hK => ?_)
                      go_simp
                      refine hK.out _ _ ⟨fun _ => hHeld, ?_⟩
                      clear hK K
                      (try simp only [Act.put, List.setIfInBounds_toArray, List.set_cons_zero, List.set_cons_succ])
                      refine wpAnyB_take (i := 16) (v := ?_) rfl (by kernel_rfl) (by kernel_rfl) (by kernel_rfl) (by kernel_rfl) (by rfl) (fun _ _ _ h => h) (Or.inl ⟨by rfl, ?_⟩) (by assumption) ?_
                      rotate_left
                      · (intro w hSw; (try dsimp only at hSw); obtain ⟨s1, s2, s3⟩ := hSw; go_simp; (try with_reducible rfl))
                      (try simp only [Act.put, List.setIfInBounds_toArray, List.set_cons_zero, List.set_cons_succ])
                      refine wpAnyB_ready (rs := [17]) (by kernel_rfl) (by simp) ?_
                      intro j17 hj17
                      simp only [List.mem_cons, List.not_mem_nil, or_false] at hj17
                      rcases hj17 with rfl
                      refine wpOp_run (i := 17) rfl (fun K hK => ?_)
                      go_simp
                      refine hK.out _ _ ⟨fun h => absurd h (by decide), ?_⟩
                      clear hK K hHeld
                      (try simp only [Act.put, List.setIfInBounds_toArray, List.set_cons_zero, List.set_cons_succ])
                      refine wpAnyB_done (by kernel_rfl) ?_ _
                      refine NoPanic.normal ?_
                      go_wp2_with fail
                      go_meet
                      exact HN.out
                  · refine wpOp_run (i := 13) rfl (fun K hK => ?_)
                    go_simp
                    refine hK.out _ _ ⟨fun _ => HKS3.out _ (by repeat (first | with_reducible exact HL3.out.kept | with_reducible exact Kept.refl _ _ | with_reducible apply Kept.drew | with_reducible apply Kept.alloc)), ?_⟩
                    clear hK K hHeld
                    (try simp only [Act.put, List.setIfInBounds_toArray, List.set_cons_zero, List.set_cons_succ])
                    have hHeld := HKS3.out _ (by repeat (first | with_reducible exact HL3.out.kept | with_reducible exact Kept.refl _ _ | with_reducible apply Kept.drew | with_reducible apply Kept.alloc))
                    refine wpAnyB_ready (rs := [3]) (by kernel_rfl) (by simp) ?_
                    intro j2 hj2
                    simp only [List.mem_cons, List.not_mem_nil, or_false] at hj2
                    rcases hj2 with rfl
                    refine wpOp_run (i := 3) rfl (fun K hK => ?_)
                    go_simp
                    refine hK.out _ _ ⟨fun _ => HKS3.out _ (by repeat (first | with_reducible exact HL3.out.kept | with_reducible exact Kept.refl _ _ | with_reducible apply Kept.drew | with_reducible apply Kept.alloc)), ?_⟩
                    clear hK K hHeld
                    (try simp only [Act.put, List.setIfInBounds_toArray, List.set_cons_zero, List.set_cons_succ])
                    have hHeld := HKS3.out _ (by repeat (first | with_reducible exact HL3.out.kept | with_reducible exact Kept.refl _ _ | with_reducible apply Kept.drew | with_reducible apply Kept.alloc))
                    refine wpAnyB_ready (rs := [10]) (by kernel_rfl) (by simp) ?_
                    intro j3 hj3
                    simp only [List.mem_cons, List.not_mem_nil, or_false] at hj3
                    rcases hj3 with rfl
                    refine wpOp_run (i := 10) rfl (fun K hK => ?_)
                    refine step_copR (by rfl) (.tmp 95) (.tmp 101) (by rfl) (by rfl) w4 _ (by rfl) (by rfl) HSO.out HNO.out (by omega) (by repeat (first | with_reducible exact HL3.out.kept | with_reducible exact Kept.refl _ _ | with_reducible apply Kept.drew | with_reducible apply Kept.alloc)) (by ((repeat (first | (with_reducible refine at_hit ?_; (· ((try have f3a := HL3.out.size); (try have f3b := HL3.out.which); (try have f3c := HL3.out.here); (try have f3d := HL3.out.new); (try simp at f3a); (try simp at f3b); first | omega | (simp [size_drew]; done) | (simp [size_drew]; omega)))) | with_reducible apply at_drew | (with_reducible refine at_miss ?_ ?_; rotate_left; (· ((try have f3a := HL3.out.size); (try have f3b := HL3.out.which); (try have f3c := HL3.out.here); (try have f3d := HL3.out.new); (try simp at f3a); (try simp at f3b); first | omega | (simp [size_drew]; done) | (simp [size_drew]; omega)))) | (with_reducible refine at_lays HL3.out ?_ ?_; rotate_left; (· ((try have f3a := HL3.out.size); (try have f3b := HL3.out.which); (try have f3c := HL3.out.here); (try have f3d := HL3.out.new); (try simp at f3a); (try simp at f3b); first | omega | (simp [size_drew]; done) | (simp [size_drew]; omega)))))); done)) (by ((try have f3a := HL3.out.size); (try have f3b := HL3.out.which); (try have f3c := HL3.out.here); (try have f3d := HL3.out.new); (try simp at f3a); (try simp at f3b); first | omega | (simp [size_drew]; done) | (simp [size_drew]; omega))) ?_
                    intro A10 c10 W10 r10 hl10 ha10 hrow10
                    have HL3 := Lib.hid hl10
                    have HA10 := Lib.hid ha10
                    have HROW := Lib.hid hrow10
                    clear hl10 ha10 hrow10
                    refine hK.out _ _ ⟨fun _ => HKS3.out _ HL3.out.kept, ?_⟩
                    clear hK K hHeld
                    (try simp only [Act.put, List.setIfInBounds_toArray, List.set_cons_zero, List.set_cons_succ])
                    have hHeld := HKS3.out _ HL3.out.kept
                    refine wpAnyB_ready (rs := [14]) (by kernel_rfl) (by simp) ?_
                    intro j4 hj4
                    simp only [List.mem_cons, List.not_mem_nil, or_false] at hj4
                    rcases hj4 with rfl
                    refine wpOp_run (i := 14) rfl (fun K hK => ?_)
                    refine step_add (by rfl) (.tmp 102) (.tmp 105) (by rfl) (by rfl) w4 (by rfl) (by rfl) (by first | with_reducible exact HROW.out | exact HROW.out.kept ((Kept.refl (fun _ => False) _).alloc _) (by simp)) (by ((repeat (first | (with_reducible refine at_hit ?_; (· ((try have f3a := HL3.out.size); (try have f3b := HL3.out.which); (try have f3c := HL3.out.here); (try have f3d := HL3.out.new); (try simp at f3a); (try simp at f3b); first | omega | (simp [size_drew]; done) | (simp [size_drew]; omega)))) | with_reducible apply at_drew | (with_reducible refine at_miss ?_ ?_; rotate_left; (· ((try have f3a := HL3.out.size); (try have f3b := HL3.out.which); (try have f3c := HL3.out.here); (try have f3d := HL3.out.new); (try simp at f3a); (try simp at f3b); first | omega | (simp [size_drew]; done) | (simp [size_drew]; omega)))) | (with_reducible refine at_lays HL3.out ?_ ?_; rotate_left; (· ((try have f3a := HL3.out.size); (try have f3b := HL3.out.which); (try have f3c := HL3.out.here); (try have f3d := HL3.out.new); (try simp at f3a); (try simp at f3b); first | omega | (simp [size_drew]; done) | (simp [size_drew]; omega)))))); done)) (by repeat (first | with_reducible exact HL3.out.kept | with_reducible exact Kept.refl _ _ | with_reducible apply Kept.drew | with_reducible apply Kept.alloc)) (fun r hr => by rw [HA10.out] at hr; injection hr with hr; rw [← hr]; exact HL3.out.new) (by omega) ?_
                    intro A14 c14 W14 hrow14 hfr14 hk14
                    have n1 := HCN.out _ hk14
                    have n2 := HFN.out _ hk14
                    have hNl14 : NB < W14.heap.size := Nat.lt_of_lt_of_le hNBl hk14.size
                    have HK14 := Lib.hid hk14
                    have HN : Hid (BRel w1 (W14.setCell ⟨NB, i * 5 + 3, none⟩ (.slice A14 (rl + 1) c14)) g B NB C on rn os (k + 1)) := by
                      have hB5 := HB4.out.refd HOI.out (A := A14) (c := c14) (t := y) HIY.out (by rw [← HRL.out]; omega) hk14 (by rw [← HRL.out]; exact hrow14) hfr14
                      rw [← HRL.out] at hB5
                      have hP5 := HP.out.write HOI.out A14 c14 y
                      rw [HOA'.out] at hP5
                      exact ⟨ow3, lw, nc, rA', rc', _, _, rs', cs, hB5, hP5⟩
                    clear hrow14 hfr14 hk14
                    refine hK.out _ _ ⟨fun _ => HKS3.out _ HK14.out, ?_⟩
                    clear hK K hHeld
                    (try simp only [Act.put, List.setIfInBounds_toArray, List.set_cons_zero, List.set_cons_succ])
                    have hHeld := HKS3.out _ HK14.out
                    refine wpAnyB_ready (rs := [15]) (by kernel_rfl) (by simp) ?_
                    intro j15 hj15
                    simp only [List.mem_cons, List.not_mem_nil, or_false] at hj15
                    rcases hj15 with rfl
                    refine wpOp_run (i := 15) rfl (fun K hK => ?_)
                    go_simp
                    refine hK.out _ _ ⟨fun _ => hHeld, ?_⟩
                    clear hK K
                    (try simp only [Act.put, List.setIfInBounds_toArray, List.set_cons_zero, List.set_cons_succ])
                    refine wpAnyB_take (i := 16) (v := ?_) rfl (by kernel_rfl) (by kernel_rfl) (by kernel_rfl) (by kernel_rfl) (by rfl) (fun _ _ _ h => h) (Or.inl ⟨by rfl, ?_⟩) (by assumption) ?_
                    rotate_left
                    · (intro w hSw; (try dsimp only at hSw); obtain ⟨s1, s2, s3⟩ := hSw; go_simp; (try with_reducible rfl))
                    (try simp only [Act.put, List.setIfInBounds_toArray, List.set_cons_zero, List.set_cons_succ])
                    refine wpAnyB_ready (rs := [17]) (by kernel_rfl) (by simp) ?_
                    intro j17 hj17
                    simp only [List.mem_cons, List.not_mem_nil, or_false] at hj17
                    rcases hj17 with rfl
                    refine wpOp_run (i := 17) rfl (fun K hK => ?_)
                    go_simp
                    refine hK.out _ _ ⟨fun h => absurd h (by decide), ?_⟩
                    clear hK K hHeld
                    (try simp only [Act.put, List.setIfInBounds_toArray, List.set_cons_zero, List.set_cons_succ])
                    refine wpAnyB_done (by kernel_rfl) ?_ _
                    refine NoPanic.normal ?_
                    go_wp2_with fail
                    go_meet
                    exact HN.out
                · have hor : Mk.colOf m.nodes a = none ∨ Mk.colOf m.nodes y = none := by
                    by_cases hc : Mk.colOf m.nodes a = none
                    · exact .inl hc
                    · exact .inr (Classical.byContradiction fun h => hex ⟨hc, h⟩)
                  have HWR := Lib.hid (m_write_bad HP.out.good HBV.out.mm HI.out.1 HI.out.2 hor)
                  clear hFew hor hex
                  go_wp2_with fail
                  refine HWR.out.mono ?_
                  rintro e w3 ⟨rfl, rfl⟩
                  clear HWR
                  go_wp2
                  go_meet
                  exact ⟨ow', lw, nc, rA', rc', m, os', rs', cs, HBV.out, HP.out.up⟩
              have t1 : (kd == 1) = false := by simp [h1]
              by_cases hex : Mk.colOf m.nodes a = none
              · have HRT := Lib.hid (m_root_bad HP.out.good HBV.out.mm HI.out.1 hex)
                clear hFew hex
                go_wp2_with fail
                refine HRT.out.mono ?_
                rintro e w3 ⟨rfl, rfl⟩
                clear HRT
                go_wp2
                go_meet
                exact ⟨ow', lw, nc, rA', rc', m, os', rs', cs, HBV.out, HP.out.up⟩
              · have HRT := Lib.hid (m_root_ok HP.out.good HBV.out.mm HI.out.1 hex hqb)
                clear hFew hex
                go_wp2_with fail
                refine HRT.out.mono ?_
                rintro e w3 ⟨rfl, hpost⟩
                have hpk : Kept (fun k => Own ow' k) V w3 := by obtain ⟨_, _, hk, _⟩ := hpost; exact hk
                obtain ⟨ow3, hB3⟩ := HBV.out.marked hpost
                have u1 := (hpk.cell (p := ⟨X, 1, none⟩) hXl hXo).trans v1
                have hXl3 : X < w3.heap.size := Nat.lt_of_lt_of_le hXl hpk.size
                have z1 := hB3.box.cell 1
                simp at z1
                have zf := hB3.box.frozen 1
                have hBl3 := hB3.box.lt
                have hsrc : Src (w3.alloc (.cells #[.int .i64 a] 3)) (some ⟨w3.heap.size, 0, none⟩) 1 [a] := (Row.new w3 [a] (by show 1 ≤ maxLen; decide)).src
                have HSR := Lib.hid hsrc
                have HRA3 : Hid (Row (w3.alloc (.cells #[.int .i64 a] 3)) rA' rs'.length rc' rs') := hB3.roots.kept ((Kept.refl (fun _ => False) w3).alloc _) (by simp)
                have HB3 := Lib.hid hB3
                have hb8 : (rs'.length + 1) * 8 ≤ 140737488355328 := by have := HP.out.rl; omega
                have hBR : rowBlk rA' ≠ some B := fun e => by have := HB3.out.t3 _ e; rw [HB3.out.t0] at this; injection this; omega
                generalize hrl : rs'.length = rl at *
                have HRL := Lib.hid hrl
                clear hpost hB3 hpk HRT hsrc hrl
                go_wp2_with (at_builtin; refine wpList_append_Row _ rfl _ _ rfl rA' rl rc' rs' rfl HRA3.out (some ⟨w3.heap.size, 0, none⟩) 1 1 [a] rfl HSR.out (by simp) hb8 ?_)
                intro A' c' w5 r1 r2 r3
                have k5 : Kept (fun k => rowBlk rA' = some k) w3 w5 := ((Kept.refl _ w3).alloc _).grown r2 (fun k hk _ => hk)
                have y1 := (k5.cell (p := ⟨B, 1, none⟩) hBl3 hBR).trans z1
                have yf : w5.frozen? ⟨B, 1, none⟩ = false := (World.frozen?_of_block (k5.block B hBl3 hBR)).trans zf
                have HN : Hid (BRel w1 (w5.setCell ⟨B, 1, none⟩ (.slice A' (rl + 1) c')) g B NB C on rn os (k + 1)) := by
                  have hr3 : rowBlk A' = rowBlk rA' ∨ ∃ r, rowBlk A' = some r ∧ w3.heap.size ≤ r := by
                    rcases r3 with h | ⟨r, h, hr⟩
                    · exact .inl h
                    · exact .inr ⟨r, h, by first | omega | (simp at hr; omega)⟩
                  obtain ⟨lw5, hB5⟩ := HB3.out.rooted (x := a) k5 (by rw [HRL.out]; exact r1) hr3
                  rw [HRL.out] at hB5
                  exact ⟨ow3, lw5, nc, A', c', _, os', rs' ++ [a], cs, hB5, HP.out.root a⟩
                clear r1 r2 r3 k5 HSR HRA3 z1 zf
                go_wp2
                go_meet
                exact HN.out
            case rest =>
              have HC := Lib.hid hcut
              clear hcut HBV HP HI HXB v0 v1 v2 hXl
              go_wp2
              go_loopw [12] (fun j wz => ∃ n : Nat, n ≤ on ∧ j = .int .i64 (n : Int) ∧ BRel w1 wz g B NB C on rn os (k + 1)) (fun j _ => on - (intOf j).toNat)
              case atStart => exact ⟨0, Nat.zero_le _, rfl, HC.out⟩
              case round =>
                obtain ⟨n, hn, rfl, hrel⟩ := hrel
                clear HC
                by_cases hno : n < on
                · obtain ⟨ow2, lw2, nc2, rA2, rc2, m2, os2, rs2, cs2, hB2, hP2⟩ := hrel
                  have kr := hB2.kept
                  have hbr := HBX.out.kept kr (by simp)
                  have r0 := hbr.cell 0
                  simp at r0
                  have hbrl := hbr.lt
                  obtain ⟨b', off', hA, hbl, hcells⟩ := H1.out.objs.at_ (by omega)
                  obtain ⟨q0, _⟩ := hcells n _ (List.getElem?_eq_getElem (by omega))
                  have hmem : (os[n]'(by omega)) ∈ os := List.getElem_mem (by omega)
                  have hat : os[n]? = some (os[n]'(by omega)) := List.getElem?_eq_getElem (by omega)
                  have hid := (H1.out.pre _ hmem).iid
                  obtain ⟨c, hc⟩ := hP2.hasCol hmem
                  have g0 := (kr.cell (p := ⟨b', off' + n * 5, none⟩) hbl (by simp)).trans q0
                  have hcs : cs2.length = on := hB2.cols.1
                  obtain ⟨cb, co, xv, hCA, hcb, hxv, hcell⟩ := hB2.cols.src.at_ hno
                  injection hCA with hCA
                  injection hCA with hCA1 hCA2 _
                  subst hCA1 hCA2
                  rw [Nat.zero_add] at hcell
                  obtain ⟨c', hc', hle⟩ := hP2.cl n _ xv hat hxv
                  rw [hc] at hc'
                  injection hc' with hc'
                  subst hc'
                  have hfz : wr.frozen? ⟨C, n, none⟩ = false := hB2.cols.frozen n
                  generalize (os[n]'(by omega)) = o at *
                  have hcol : Calls Try.prog 14 #[.pointer (some ⟨g, 0, none⟩), .int .i64 o.id] wr fun e w' => e = .returned (.int .i64 (colE m2 o.id)) ∧ wr = w' := m_color hP2.good hB2.mm hid
                  have hcE : colE m2 o.id = (c : Int) := by unfold colE; rw [hc]
                  rw [hcE] at hcol
                  have HCOL := Lib.hid hcol
                  have HNEW : Hid (BRel w1 (wr.setCell ⟨C, n, none⟩ (.int .i64 (c : Int))) g B NB C on rn os (k + 1)) := ⟨ow2, lw2, nc2, rA2, rc2, m2, os2, rs2, cs2.set n (c : Int), hB2.colored hno _, hP2.col hat hc⟩
                  subst hA
                  have b0 : (0 : Int) ≤ (n : Int) := by omega
                  have b1 : (n : Int) < (on : Int) := by omega
                  have t9 : decide ((c : Int) < xv) = false := by simp; omega
                  clear hB2 hP2 hcells q0 hmem hat hid hcol hcE hc hcs hxv kr hbr hbl
                  go_wp2_with fail
                  refine HCOL.out.mono ?_
                  rintro e w9 ⟨rfl, rfl⟩
                  clear HCOL r0 g0
                  go_wp2
                  go_roundw
                  case rel => exact ⟨n + 1, by omega, by go_num, HNEW.out⟩
                  case measure => simp [intOf]; omega
                · have hno' : ¬ (n : Int) < (on : Int) := by omega
                  have HC := Lib.hid hrel
                  clear hrel
                  go_wp2
                  go_roundw
                  case rel => exact ⟨k + 1, by omega, by go_num, HC.out⟩
                  case measure => simp [intOf]; omega
          · have hlt' : ¬ (k : Int) < (ln : Int) := by omega
            have hFew : Few m := hP.few hB.ok (by rw [hB.len]; omega)
            have hnl : m.nodes.length = on := by rw [hP.len, hB.len]
            have hend : (m.steps on).queue = [] := Mk.steps_end hP.good (by omega)
            have hst := m_step hP.good hFew hB.mm (on : Int)
            rw [Int.toNat_natCast] at hst
            have hq0 : (((m.steps on).queue.length : Int) == 0) = true := by rw [hend]; rfl
            rw [hq0] at hst
            have HST := Lib.hid hst
            have HB := Lib.hid hB
            have HPE := Lib.hid (hP.steps on)
            have HEND := Lib.hid hend
            clear hst hq0 hB hP hend hFew hnl hlt kr hbr hxl
            go_wp2_with fail
            refine HST.out.mono ?_
            rintro e w3 ⟨rfl, hpost⟩
            obtain ⟨ow3, hB3⟩ := HB.out.marked hpost
            have z0 := hB3.box.cell 0
            have z1 := hB3.box.cell 1
            simp at z0 z1
            have HR := Lib.hid (rreach_ok (some ⟨NB, 0, none⟩) rA' on nc rs'.length rc' os' rs' w3 hB3.objsAt hB3.ok hB3.roots.src (by omega) (by have := HPE.out.rl; omega) HPE.out.ck)
            have HB3 := Lib.hid hB3
            have hB3l := hB3.box.lt
            clear hpost HST HB hB3 r0
            go_wp2_with fail
            refine HR.out.mono ?_
            rintro e w4 ⟨v, rfl, A4, c4, rfl, r4, f4, k4⟩
            have HB4 := Lib.hid (HB3.out.later k4)
            have S4 := Lib.hid r4.src
            have HLV4 : Hid (∀ x, x ∈ bl (mkEnd os' rs') os' os'.length → Mk.colOf (m.steps on).nodes x = some 2) := fun x hx => live_black HPE.out.ck HPE.out.same HPE.out.good HPE.out.sound HEND.out HPE.out.roots hx
            have HLI : Hid (∀ x, x ∈ bl (mkEnd os' rs') os' os'.length → I64 x) := by
              show ∀ x, x ∈ bl (mkEnd os' rs') os' os'.length → I64 x
              intro x hx
              obtain ⟨o, ho, rfl, _⟩ := (mem_bl (Nat.le_refl _)).1 hx
              exact (HB3.out.ok o ho).iid
            have hLl : (bl (mkEnd os' rs') os' os'.length).length ≤ 60 := by have := bl_len (mkEnd os' rs') os' os'.length; have := HB3.out.len; omega
            generalize bl (mkEnd os' rs') os' os'.length = L at *
            obtain ⟨Ll, hLL⟩ : ∃ Ll, Ll = L.length := ⟨_, rfl⟩
            rw [← hLL] at S4 hLl ⊢
            clear hLL r4 f4 k4 HR z0 z1 HB3 hB3l
            go_wp2
            go_loop [16] (fun i => ∃ n : Nat, n ≤ Ll ∧ i = .int .i64 (n : Int)) (fun i => Ll - (intOf i).toNat)
            case atStart => exact ⟨0, Nat.zero_le _, rfl⟩
            case round =>
              obtain ⟨n, hn, rfl⟩ := hrel
              by_cases hnL : n < Ll
              · obtain ⟨lb, lo, x, hA, hlb, hx, hcell⟩ := S4.out.at_ hnL
                have hxm := List.mem_of_getElem? hx
                have hcol : Calls Try.prog 14 #[.pointer (some ⟨g, 0, none⟩), .int .i64 x] w4 fun e w' => e = .returned (.int .i64 (colE (m.steps on) x)) ∧ w4 = w' := m_color HPE.out.good HB4.out.mm (HLI.out x hxm)
                have hcE : colE (m.steps on) x = 2 := by unfold colE; rw [HLV4.out x hxm]; rfl
                rw [hcE] at hcol
                have HCOL := Lib.hid hcol
                subst hA
                have b0 : (0 : Int) ≤ (n : Int) := by omega
                have b1 : (n : Int) < (Ll : Int) := by omega
                clear hcol hcE hxm hx
                go_wp2_with fail
                refine HCOL.out.mono ?_
                rintro e w9 ⟨rfl, rfl⟩
                clear HCOL
                go_wp2
                go_round
                case rel => exact ⟨n + 1, by omega, by go_num⟩
                case measure => simp [intOf]; omega
              · have hnL' : ¬ (n : Int) < (Ll : Int) := by omega
                have HSO := Lib.hid (m_sound HPE.out.good HPE.out.sound (HPE.out.few HB4.out.ok (by rw [HB4.out.len]; omega)) HB4.out.mm)
                have KW : Hid (Kept (fun _ => False) w w4) := K1.out.trans HB4.out.kept (fun _ _ h => h)
                go_wp2_with fail
                refine HSO.out.mono ?_
                rintro e w5 ⟨rfl, k5⟩
                have K5 : Hid (Kept (fun _ => False) w w5) := KW.out.trans k5 (fun _ _ h => h)
                clear k5 HSO
                go_wp2_with fail
                refine (HLV.out _).mono ?_
                rintro e w6 ⟨rfl, k6⟩
                have K6 : Hid (Kept (fun _ => False) w w6) := K5.out.trans k6 (fun _ _ h => h)
                clear k6
                go_wp2
                go_ret
                exact ⟨rfl, K6.out⟩
    · obtain hck : chk 0 os = false := by simpa using hck
      have HN := Lib.hid (new_bad oA rA on oc rn rc os w1 H1.out.objs (by omega) hck)
      go_wp2_with fail
      refine HN.out.mono ?_
      rintro e w2 ⟨rfl, k2⟩
      have K2 : Hid (Kept (fun _ => False) w w2) := K1.out.trans k2 (fun _ _ h => h)
      clear k2 HN c0 c1
      go_wp2_with fail
      refine (HLV.out _).mono ?_
      rintro e w3 ⟨rfl, k3⟩
      have K3 : Hid (Kept (fun _ => False) w w3) := K2.out.trans k3 (fun _ _ h => h)
      clear k3
      go_wp2
      go_ret
      exact ⟨rfl, K3.out⟩
end Go.Proofs.Ytalhldfcdfdoeaa
