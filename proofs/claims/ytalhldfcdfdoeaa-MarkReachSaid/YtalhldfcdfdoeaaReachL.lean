/- What is proved here: the walk of MarkReach: it returns true and changes nothing that was there. Condition: the argument lies in memory as a graph. -/
import Derived.Test.YtalhldfcdfdoeaaSteps
import Derived.Test.YtalhldfcdfdoeaaRAll
namespace Go.Proofs.Ytalhldfcdfdoeaa
open Go.RowKit

set_option maxHeartbeats 16000000 in
theorem reach_walk (w : World) (oA rA : Option Addr) (on oc rn rc : Nat) (os : List Ob) (rs : List Int) (h : Gr w oA rA on oc rn rc os rs) :
    Calls Try.prog 4 #[.agg #[.slice oA on oc, .slice rA rn rc]] w fun e w' => e = .returned (.bool true) ∧ Kept (fun _ => False) w w' := by
  have HL := Lib.hid (large_any oA rA on oc rn rc os (w.alloc (.cells #[.slice oA on oc, .slice rA rn rc] 25)) (h.objs.later ((Kept.refl _ w).alloc _)))
  have H := Lib.hid h
  clear h
  go_enter Try.func4, Try.ntmps4
  go_wp2_with fail
  refine HL.out.mono ?_
  rintro e w1 ⟨b, rfl, hsm, k1⟩
  have hbx : Blk w1 w.heap.size 25 #[.slice oA on oc, .slice rA rn rc] := (Blk.new w 25 _).kept k1 (by simp)
  have K1 : Hid (Kept (fun _ => False) w w1) := ((Kept.refl _ w).alloc _).trans k1 (fun _ _ h => h)
  have HLV := Lib.hid lives_any
  clear k1 HL
  cases b with
  | true =>
    go_wp2_with fail
    refine (HLV.out _).mono ?_
    rintro e w2 ⟨rfl, k2⟩
    have K2 : Hid (Kept (fun _ => False) w w2) := K1.out.trans k2 (fun _ _ h => h)
    clear k2
    go_wp2
    go_ret
    exact ⟨rfl, K2.out⟩
  | false =>
    obtain ⟨q1, q2, q3⟩ := hsm rfl
    have c0 := hbx.cell 0
    have c1 := hbx.cell 1
    have hbl1 := hbx.lt
    have HBX := Lib.hid hbx
    have H1 := Lib.hid (H.out.later K1.out)
    have HQ := Lib.hid q3
    clear hsm q3 hbx
    by_cases hck : chk 0 os = true
    · have hok : ∀ o, o ∈ os → ObOk w1 o := fun o ho => (H1.out.pre o ho).ok (HQ.out o ho)
      have hlen := H1.out.objs.len
      have hrc := reach_ok oA rA on oc rn rc os rs w1 H1.out.objs hok H1.out.roots H1.out.ints (by omega) (by omega) hck
      have hE : (mkNew os rs).steps on = mkEnd os rs := by rw [← hlen]; rfl
      have e9 : bl (mkEnd os rs) os on = bl (mkEnd os rs) os os.length := by rw [hlen]
      rw [hE, e9] at hrc
      have HR := Lib.hid hrc
      have HOK := Lib.hid hok
      have hLl : (bl (mkEnd os rs) os os.length).length ≤ 60 := by have := bl_len (mkEnd os rs) os os.length; omega
      have HMEM := Lib.hid (fun x => mem_bl (os := os) (m := mkEnd os rs) (Nat.le_refl _) (x := x))
      have HEG := Lib.hid (end_good (rs := rs) hck)
      have HEQ := Lib.hid (end_queue (rs := rs) hck)
      have HES := Lib.hid (fun o (ho : o ∈ os) => end_some (rs := rs) ho)
      have HE := Lib.hid hE
      obtain ⟨L, hL⟩ : ∃ L, L = bl (mkEnd os rs) os os.length := ⟨_, rfl⟩
      rw [← hL] at HR hLl HMEM
      have HLL := Lib.hid hL
      clear hok hrc hE e9 hL
      go_wp2_with fail
      refine HR.out.mono ?_
      rintro e w2 ⟨v, rfl, A3, c3, rfl, r3, f3, k2⟩
      have hb2 := HBX.out.kept k2 (by simp)
      have d0 := hb2.cell 0
      have d1 := hb2.cell 1
      have hr2 := rreach_ok oA rA on oc rn rc os rs w2 (H1.out.objs.later k2) (fun o ho => (HOK.out o ho).later k2) (H1.out.roots.kept k2 (fun _ _ h => h)) (by omega) (by omega) hck
      rw [← HLL.out] at hr2
      have HR2 := Lib.hid hr2
      have K2 := Lib.hid k2
      have S3 := Lib.hid r3.src
      clear k2 HR hb2 c0 c1 r3 f3 hr2
      go_wp2_with fail
      refine HR2.out.mono ?_
      rintro e w3 ⟨v, rfl, A4, c4, rfl, r4, f4, k3⟩
      have K3 : Hid (Kept (fun _ => False) w1 w3) := K2.out.trans k3 (fun _ _ h => h)
      have HI := Lib.hid (ints_same A3 A4 L.length c3 c4 L w3 (S3.out.kept k3 (fun _ _ h => h)) r4.src (by omega))
      have S33 : Hid (Src w3 A3 L.length L) := S3.out.kept k3 (fun _ _ h => h)
      clear k3 HR2 d0 d1 r4 f4
      go_wp2_with fail
      refine HI.out.mono ?_
      rintro e w4 ⟨rfl, k4⟩
      have K4 : Hid (Kept (fun _ => False) w1 w4) := K3.out.trans k4 (fun _ _ h => h)
      have S4 : Hid (Src w4 A3 L.length L) := S33.out.kept k4 (fun _ _ h => h)
      have hb4 := HBX.out.kept K4.out (by simp)
      have f0 := hb4.cell 0
      have f1 := hb4.cell 1
      have hok4 : ∀ o, o ∈ os → ObOk w4 o := fun o ho => (HOK.out o ho).later K4.out
      have HN := Lib.hid (new_ok oA rA on oc rn rc os rs w4 (H1.out.objs.later K4.out) hok4 (H1.out.roots.kept K4.out (fun _ _ h => h)) H1.out.ints (by omega) (by omega) hck)
      have HG0 := Lib.hid (mkNew_good hck rs)
      have HF0 := Lib.hid (mkNew_few hok4 (by omega) rs)
      clear k4 HI hb4 hok4 S3 S33
      go_wp2_with fail
      refine HN.out.mono ?_
      rintro e w5 ⟨g, ow, rfl, hM5, ho5, k5⟩
      have K5 : Hid (Kept (fun _ => False) w1 w5) := K4.out.trans k5 (fun _ _ h => h)
      have hb5 := HBX.out.kept K5.out (by simp)
      have g0 := hb5.cell 0
      have hst := m_step HG0.out HF0.out hM5 (on : Int)
      rw [Int.toNat_natCast, HE.out] at hst
      have HST := Lib.hid hst
      have HO5 := Lib.hid ho5
      have S5 : Hid (Src w5 A3 L.length L) := S4.out.kept k5 (fun _ _ h => h)
      have hq0 : (((mkEnd os rs).queue.length : Int) == 0) = true := by rw [HEQ.out]; rfl
      rw [hq0] at HST
      clear hM5 ho5 k5 hb5 hst HN f0 f1 hq0
      go_wp2_with fail
      refine HST.out.mono ?_
      rintro e w6 ⟨rfl, ow6, hM6, k6, s6⟩
      have hk16 : Kept (fun _ => False) w1 w6 := K5.out.trans k6 (fun i hi hf => by have := HO5.out i hf; have := K4.out.size; omega)
      have hS6 : Src w6 A3 L.length L := by
        rcases Nat.eq_zero_or_pos L.length with h | h
        · exact ⟨S5.out.1, fun h2 => by omega⟩
        · refine S5.out.kept k6 (fun r hr hf => ?_)
          obtain ⟨gg, oo, e, hl, _⟩ := S4.out.2 h
          rw [e] at hr
          simp [rowBlk] at hr
          have := HO5.out r hf
          omega
      have hgr := m_gray hM6 (by rw [HEQ.out]; simp)
      rw [HEQ.out] at hgr
      have HGR := Lib.hid hgr
      have HM6 := Lib.hid hM6
      have K16 := Lib.hid hk16
      have S6 := Lib.hid hS6
      clear hgr hM6 k6 s6 hk16 hS6 HST g0
      go_wp2_with fail
      refine HGR.out.mono ?_
      rintro e w7 ⟨v, rfl, A7, c7, rfl, _, _, k7⟩
      have K17 : Hid (Kept (fun _ => False) w1 w7) := K16.out.trans k7 (fun _ _ h => h)
      have HM7 := Lib.hid (HM6.out.kept k7 (by simp))
      have S7 : Hid (Src w7 A3 L.length L) := S6.out.kept k7 (fun _ _ h => h)
      clear k7 HGR HM6 S6 S5 S4 HO5
      simp only [List.length_nil]
      go_wp2
      go_loopw [9] (fun i wr => ∃ k : Nat, k ≤ on ∧ i = .int .i64 (k : Int) ∧ Kept (fun _ => False) w7 wr) (fun i _ => on - (intOf i).toNat)
      case atStart => exact ⟨0, Nat.zero_le _, rfl, Kept.refl _ _⟩
      case round =>
        obtain ⟨k, hk, rfl, kk⟩ := hrel
        have hbx3 := (HBX.out.kept K17.out (by simp)).kept kk (by simp)
        have d0 := hbx3.cell 0
        by_cases hlt : k < on
        · obtain ⟨b, off, hA, hbl, hcells⟩ := H1.out.objs.at_ (by omega)
          have p0 := (hcells k _ (List.getElem?_eq_getElem (by omega))).1
          have hmem : (os[k]'(by omega)) ∈ os := List.getElem_mem (by omega)
          have hid := (H1.out.pre _ hmem).iid
          obtain ⟨cl, hcl⟩ := HES.out _ hmem
          have hcol : (os[k]'(by omega)).id ∈ L ∧ cl = 2 ∨ (os[k]'(by omega)).id ∉ L ∧ cl = 0 := by
            by_cases h0 : cl = 0
            · refine .inr ⟨fun hm => ?_, h0⟩
              obtain ⟨_, _, _, h2⟩ := (HMEM.out _).1 hm
              rw [hcl, h0] at h2
              cases h2
            · have h2 := Mk.Good.two HEG.out HEQ.out hcl h0
              exact .inl ⟨(HMEM.out _).2 ⟨_, hmem, rfl, by rw [hcl, h2]⟩, h2⟩
          generalize (os[k]'(by omega)).id = oid at *
          have e0 := ((K17.out.trans kk (fun _ _ h => h)).cell (p := ⟨b, off + k * 5, none⟩) hbl (by simp)).trans p0
          subst hA
          obtain ⟨wo, rfl⟩ : ∃ wo : World, wo = wr := ⟨_, rfl⟩
          have b0 : (0 : Int) ≤ (k : Int) := by omega
          have b1 : (k : Int) < (on : Int) := by omega
          have hbw : b < wo.heap.size := Nat.lt_of_lt_of_le (Nat.lt_of_lt_of_le hbl K17.out.size) kk.size
          have hbw2 : w.heap.size < wo.heap.size := hbx3.lt
          have KK := Lib.hid kk
          have HCOL := Lib.hid hcol
          have HCL := Lib.hid hcl
          clear kk hcells p0 hmem hcol hcl hbx3
          go_wp2
          go_loopw [10, 11] (fun v i wz => ∃ j : Nat, j ≤ L.length ∧ i = .int .i64 (j : Int) ∧ (v = .int .i64 2 ∧ oid ∈ L.take j ∨ v = .int .i64 0 ∧ oid ∉ L.take j) ∧ Kept (fun _ => False) wo wz) (fun _ i _ => L.length - (intOf i).toNat)
          case atStart => exact ⟨0, Nat.zero_le _, rfl, .inr ⟨rfl, by simp⟩, Kept.refl _ _⟩
          case round =>
            obtain ⟨j, hj, rfl, hb, kj⟩ := hrel
            have u0 := (kj.cell (p := ⟨w.heap.size, 0, none⟩) hbw2 (by simp)).trans d0
            have u1 := (kj.cell (p := ⟨b, off + k * 5, none⟩) hbw (by simp)).trans e0
            by_cases hjl : j < L.length
            · obtain ⟨lb, lo, y, hA, hlb, hy, f0'⟩ := S7.out.at_ hjl
              have hLj : L.take (j + 1) = L.take j ++ [y] := by
                obtain ⟨hjl, he⟩ := List.getElem?_eq_some_iff.1 hy
                rw [List.take_succ_eq_append_getElem hjl, he]
              have u2 := ((KK.out.trans kj (fun _ _ h => h)).cell (p := ⟨lb, lo + j, none⟩) hlb (by simp)).trans f0'
              subst hA
              have cc0 : (0 : Int) ≤ (j : Int) := by omega
              have cc1 : (j : Int) < (L.length : Int) := by omega
              have KJ := Lib.hid kj
              by_cases hya : y = oid
              · have t1 : (y == oid) = true := by simp [hya]
                have HN9 : Hid (oid ∈ L.take (j + 1)) := by
                  show oid ∈ _
                  rw [hLj, hya]
                  simp
                clear hb hLj f0' hy kj
                go_wp2_with fail
                go_quiet (fail)
                go_wp2
                go_roundw
                case rel => exact ⟨j + 1, by omega, by go_num, .inl ⟨rfl, HN9.out⟩, KJ.out.drewN _⟩
                case measure => simp [intOf]; omega
              · have t1 : (y == oid) = false := by simp [hya]
                have HN9 : Hid ((oid ∈ L.take j ↔ oid ∈ L.take (j + 1))) := by
                  show _ ↔ _
                  rw [hLj, List.mem_append]
                  constructor
                  · exact .inl
                  · rintro (h | h)
                    · exact h
                    · simp at h; exact absurd h.symm hya
                have HB9 := Lib.hid hb
                clear hb hLj f0' hy kj
                go_wp2_with fail
                go_quiet (fail)
                go_wp2
                go_roundw
                case rel => exact ⟨j + 1, by omega, by go_num, by rw [← HN9.out]; exact HB9.out, KJ.out.drewN _⟩
                case measure => simp [intOf]; omega
            · obtain rfl : j = L.length := by omega
              rw [List.take_length] at hb
              have hcE : colE (mkEnd os rs) oid = (cl : Int) := by unfold colE; rw [HCL.out]
              have hc : Calls Try.prog 14 #[.pointer (some ⟨g, 0, none⟩), .int .i64 oid] wr fun e w' => e = .returned (.int .i64 (colE (mkEnd os rs) oid)) ∧ wr = w' := m_color HEG.out (HM7.out.kept (KK.out.trans kj (fun _ _ h => h)) (by simp)) hid
              rw [hcE] at hc
              have HC := Lib.hid hc
              have KJ : Hid (Kept (fun _ => False) w7 wr) := KK.out.trans kj (fun _ _ h => h)
              rcases HCOL.out with ⟨hin, rfl⟩ | ⟨hin, rfl⟩
              · rcases hb with ⟨rfl, _⟩ | ⟨rfl, hb⟩
                · clear hc kj hcE
                  go_wp2_with fail
                  refine HC.out.mono ?_
                  rintro e w9 ⟨rfl, rfl⟩
                  go_wp2
                  go_roundw
                  case rel => exact ⟨k + 1, by omega, by go_num, KJ.out⟩
                  case measure => simp [intOf]; omega
                · exact absurd hin hb
              · rcases hb with ⟨rfl, hb⟩ | ⟨rfl, _⟩
                · exact absurd hb hin
                · clear hc kj hcE
                  go_wp2_with fail
                  refine HC.out.mono ?_
                  rintro e w9 ⟨rfl, rfl⟩
                  go_wp2
                  go_roundw
                  case rel => exact ⟨k + 1, by omega, by go_num, KJ.out⟩
                  case measure => simp [intOf]; omega
        · have KF : Hid (Kept (fun _ => False) w wr) := (K1.out.trans K17.out (fun _ _ h => h)).trans kk (fun _ _ h => h)
          clear kk hbx3
          go_wp2_with fail
          refine (HLV.out _).mono ?_
          rintro e w9 ⟨rfl, k9⟩
          have K9 : Hid (Kept (fun _ => False) w w9) := KF.out.trans k9 (fun _ _ h => h)
          clear k9
          go_wp2
          go_ret
          exact ⟨rfl, K9.out⟩
    · obtain hck : chk 0 os = false := by simpa using hck
      have HR := Lib.hid (reach_bad oA rA on oc rn rc os w1 H1.out.objs (by omega) hck)
      go_wp2_with fail
      refine HR.out.mono ?_
      rintro e w2 ⟨rfl, k2⟩
      have hb2 := HBX.out.kept k2 (by simp)
      have d0 := hb2.cell 0
      have d1 := hb2.cell 1
      have HR2 := Lib.hid (rreach_bad oA rA on oc rn rc os w2 (H1.out.objs.later k2) (by omega) hck)
      have K2 := Lib.hid k2
      clear k2 HR hb2 c0 c1
      go_wp2_with fail
      refine HR2.out.mono ?_
      rintro e w3 ⟨rfl, k3⟩
      have K3 : Hid (Kept (fun _ => False) w1 w3) := K2.out.trans k3 (fun _ _ h => h)
      have HI := Lib.hid (ints_same none none 0 0 0 [] w3 ⟨rfl, fun h => by omega⟩ ⟨rfl, fun h => by omega⟩ (by omega))
      clear k3 HR2 d0 d1
      go_wp2_with fail
      refine HI.out.mono ?_
      rintro e w4 ⟨rfl, k4⟩
      have K4 : Hid (Kept (fun _ => False) w1 w4) := K3.out.trans k4 (fun _ _ h => h)
      have hb4 := HBX.out.kept K4.out (by simp)
      have f0 := hb4.cell 0
      have f1 := hb4.cell 1
      have HN := Lib.hid (new_bad oA rA on oc rn rc os w4 (H1.out.objs.later K4.out) (by omega) hck)
      clear k4 HI hb4
      go_wp2_with fail
      refine HN.out.mono ?_
      rintro e w5 ⟨rfl, k5⟩
      have K5 : Hid (Kept (fun _ => False) w w5) := (K1.out.trans K4.out (fun _ _ h => h)).trans k5 (fun _ _ h => h)
      clear k5 HN f0 f1
      go_wp2_with fail
      refine (HLV.out _).mono ?_
      rintro e w6 ⟨rfl, k6⟩
      have K6 : Hid (Kept (fun _ => False) w w6) := K5.out.trans k6 (fun _ _ h => h)
      clear k6
      go_wp2
      go_ret
      exact ⟨rfl, K6.out⟩
end Go.Proofs.Ytalhldfcdfdoeaa
