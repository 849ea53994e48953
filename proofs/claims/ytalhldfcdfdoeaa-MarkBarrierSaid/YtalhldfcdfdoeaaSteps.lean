/- What is proved here: the walk of MarkSteps: it returns true and changes nothing that was there. Condition: the arguments lie in memory as a graph and a list of bytes. -/
import Derived.Test.YtalhldfcdfdoeaaLives
import Derived.Test.YtalhldfcdfdoeaaOpen
namespace Go.Proofs.Ytalhldfcdfdoeaa
open Go.RowKit

/-- A graph that came in, in memory. -/
structure Gr (w : World) (oA rA : Option Addr) (on oc rn rc : Nat) (os : List Ob) (rs : List Int) : Prop where
  objs : Objs w oA on os
  pre : ∀ o, o ∈ os → ObPre w o
  roots : Src w rA rn rs
  ints : ∀ r, r ∈ rs → I64 r
theorem Gr.later {w w' : World} {oA rA : Option Addr} {on oc rn rc : Nat} {os : List Ob} {rs : List Int} (h : Gr w oA rA on oc rn rc os rs) (hk : Kept (fun _ => False) w w') : Gr w' oA rA on oc rn rc os rs :=
  ⟨h.objs.later hk, fun o ho => (h.pre o ho).later hk, h.roots.kept hk (fun _ _ h => h), h.ints⟩

/-- Two markers that lie apart in memory that is new since w1. -/
def Both (w1 wr : World) (ga gb : Nat) (ma mb : Mk) : Prop :=
  ∃ owa owb, MMem wr owa ga ma ∧ MMem wr owb gb mb ∧ (∀ j, Own owa j → ¬ Own owb j) ∧ (∀ j, Own owa j → w1.heap.size ≤ j) ∧ (∀ j, Own owb j → w1.heap.size ≤ j) ∧ Kept (fun _ => False) w1 wr
theorem Both.later {w1 wr w2 : World} {ga gb : Nat} {ma mb : Mk} (h : Both w1 wr ga gb ma mb) (k : Kept (fun _ => False) wr w2) : Both w1 w2 ga gb ma mb := by
  obtain ⟨owa, owb, h1, h2, h3, h4, h5, h6⟩ := h
  exact ⟨owa, owb, h1.kept k (by simp), h2.kept k (by simp), h3, h4, h5, h6.trans k (fun _ _ h => h)⟩
theorem Both.left {w1 wr : World} {ga gb : Nat} {ma mb : Mk} (h : Both w1 wr ga gb ma mb) : ∃ ow, MMem wr ow ga ma ∧ ∀ w2 m', MPost wr ow ga m' w2 → Both w1 w2 ga gb m' mb := by
  obtain ⟨owa, owb, h1, h2, h3, h4, h5, h6⟩ := h
  refine ⟨owa, h1, fun w2 m' ⟨ow', g1, g2, g3⟩ => ⟨ow', owb, g1, h2.kept g2 (fun k hk hf => h3 k hf hk), fun j hj hb => ?_, fun j hj => ?_, h5, h6.trans g2 (fun i hi hf => ?_)⟩⟩
  · rcases g3 j hj with h | h
    · exact h3 j h hb
    · have := h2.lt j hb; omega
  · rcases g3 j hj with h | h
    · exact h4 j h
    · exact Nat.le_trans h6.size h
  · have := h4 i hf; omega
theorem Both.swap {w1 wr : World} {ga gb : Nat} {ma mb : Mk} (h : Both w1 wr ga gb ma mb) : Both w1 wr gb ga mb ma := by
  obtain ⟨owa, owb, h1, h2, h3, h4, h5, h6⟩ := h
  exact ⟨owb, owa, h2, h1, fun j hb ha => h3 j ha hb, h5, h4, h6⟩
theorem Both.kept {w1 wr : World} {ga gb : Nat} {ma mb : Mk} (h : Both w1 wr ga gb ma mb) : Kept (fun _ => False) w1 wr := by
  obtain ⟨owa, owb, h1, h2, h3, h4, h5, h6⟩ := h
  exact h6

/-- What Color answers. -/
def colE (m : Mk) (id : Int) : Int := match Mk.colOf m.nodes id with | some c => (c : Int) | none => -1
theorem quiet_color {wr : World} {ow : Nat → Option Nat} {g : Nat} {m : Mk} (hG : m.Good) (h : MMem wr ow g m) {id : Int} (hw : I64 id) (n : Nat) :
    Calls Try.prog 14 #[.pointer (some ⟨g, 0, none⟩), .int .i64 id] (wr.drewN n) fun e w' => e = .returned (.int .i64 (colE m id)) ∧ w' = wr.drewN n :=
  (m_color hG (h.kept ((Kept.refl (fun _ => False) wr).drewN n) (by simp)) hw).mono fun e w' ⟨he, hw⟩ => ⟨he, hw.symm⟩

def Rel1 (w1 : World) (ga gb : Nat) (m0 : Mk) (k : Nat) (n e : Value) (wr : World) : Prop :=
  ∃ (S : Nat) (b : Bool), n = .int .i64 (S : Int) ∧ e = .bool b ∧ S ≤ 7 * k ∧ (0 < k → b = (((m0.steps S).queue.length : Int) == 0)) ∧ Both w1 wr ga gb (m0.steps S) m0

set_option maxHeartbeats 4000000 in
theorem steps_walk (w : World) (oA rA lA : Option Addr) (on oc rn rc ln lc : Nat) (os : List Ob) (rs zs : List Int) (h : Gr w oA rA on oc rn rc os rs) (hz : Bts w lA ln zs) :
    Calls Try.prog 3 #[.agg #[.slice oA on oc, .slice rA rn rc], .slice lA ln lc] w fun e w' => e = .returned (.bool true) ∧ Kept (fun _ => False) w w' := by
  have HL := Lib.hid (large_any oA rA on oc rn rc os (w.alloc (.cells #[.slice oA on oc, .slice rA rn rc] 25)) (h.objs.later ((Kept.refl _ w).alloc _)))
  have H := Lib.hid h
  have HZ := Lib.hid hz
  clear h hz
  go_enter Try.func3, Try.ntmps3
  go_wp2_with fail
  refine HL.out.mono ?_
  rintro e w1 ⟨b, rfl, hsm, k1⟩
  have hbx : Blk w1 w.heap.size 25 #[.slice oA on oc, .slice rA rn rc] := (Blk.new w 25 _).kept k1 (by simp)
  have K1 : Hid (Kept (fun _ => False) w w1) := ((Kept.refl _ w).alloc _).trans k1 (fun _ _ h => h)
  have HLV := Lib.hid lives_any
  clear k1 HL
  by_cases hbig : b = true ∨ 60 < ln
  · by_cases hb : b = true
    · subst hb
      go_wp2_with fail
      refine (HLV.out _).mono ?_
      rintro e w2 ⟨rfl, k2⟩
      have K2 : Hid (Kept (fun _ => False) w w2) := K1.out.trans k2 (fun _ _ h => h)
      clear k2
      go_wp2
      go_ret
      exact ⟨rfl, K2.out⟩
    · obtain rfl : b = false := by simpa using hb
      have t : decide (60 < (ln : Int)) = true := by
        rcases hbig with h | h
        · cases h
        · simp; omega
      go_wp2_with fail
      refine (HLV.out _).mono ?_
      rintro e w2 ⟨rfl, k2⟩
      have K2 : Hid (Kept (fun _ => False) w w2) := K1.out.trans k2 (fun _ _ h => h)
      clear k2
      go_wp2
      go_ret
      exact ⟨rfl, K2.out⟩
  obtain ⟨hb1, hb2⟩ := not_or.1 hbig
  obtain rfl : b = false := by simpa using hb1
  have t : decide (60 < (ln : Int)) = false := by simp; omega
  obtain ⟨q1, q2, q3⟩ := hsm rfl
  have hln : ln ≤ 60 := by omega
  have c0 := hbx.cell 0
  have c1 := hbx.cell 1
  have hb0 := hbx.lt
  have HBX := Lib.hid hbx
  have H1 := Lib.hid (H.out.later K1.out)
  have HQ := Lib.hid q3
  clear hsm hbig q3 hbx
  by_cases hck : chk 0 os = true
  · have hok : ∀ o, o ∈ os → ObOk w1 o := fun o ho => (H1.out.pre o ho).ok (HQ.out o ho)
    have hol : os.length ≤ 100 := by rw [H1.out.objs.len]; omega
    have HG := Lib.hid (mkNew_good hck rs)
    have HF := Lib.hid (mkNew_few hok hol rs)
    have HN := Lib.hid (new_ok oA rA on oc rn rc os rs w1 H1.out.objs hok H1.out.roots H1.out.ints (by omega) (by omega) hck)
    clear hok
    go_wp2_with fail
    refine HN.out.mono ?_
    rintro e w2 ⟨ga, owa, rfl, hMa, hoa, k2⟩
    have hbx2 := HBX.out.kept k2 (by simp)
    have d0 := hbx2.cell 0
    have d1 := hbx2.cell 1
    have hok2 : ∀ o, o ∈ os → ObOk w2 o := fun o ho => ((H1.out.pre o ho).later k2).ok (HQ.out o ho)
    have HN2 := Lib.hid (new_ok oA rA on oc rn rc os rs w2 (H1.out.objs.later k2) hok2 (H1.out.roots.kept k2 (fun _ _ h => h)) H1.out.ints (by omega) (by omega) hck)
    have HMA := Lib.hid hMa
    have HOA := Lib.hid hoa
    have K2 := Lib.hid k2
    clear hMa hoa k2 hok2 hbx2 HN
    go_wp2_with fail
    refine HN2.out.mono ?_
    rintro e w3 ⟨gb, owb, rfl, hMb, hob, k3⟩
    have hboth : Both w1 w3 ga gb (mkNew os rs) (mkNew os rs) := by
      refine ⟨owa, owb, HMA.out.kept k3 (by simp), hMb, fun j ha hb => ?_, HOA.out, fun j hj => ?_, K2.out.trans k3 (fun _ _ h => h)⟩
      · have := HMA.out.lt j ha
        have := hob j hb
        omega
      · have := hob j hj
        have := K2.out.size
        omega
    generalize mkNew os rs = m0 at *
    have R0 : Hid (Rel1 w1 ga gb m0 0 (.int .i64 0) (.bool false) w3) := ⟨0, false, rfl, rfl, by omega, fun h => by omega, hboth⟩
    clear hboth hMb hob k3 HN2 HMA HOA K2 d0 d1
    go_wp2
    go_loopw [9, 10, 11] (fun n e i wr => ∃ k : Nat, k ≤ ln ∧ i = .int .i64 (k : Int) ∧ Rel1 w1 ga gb m0 k n e wr) (fun _ _ i _ => ln - (intOf i).toNat)
    case atStart => exact ⟨0, Nat.zero_le _, rfl, R0.out⟩
    case round =>
      obtain ⟨k, hk, rfl, S, eb, rfl, rfl, hS, heb, hB⟩ := hrel
      by_cases hlt : k < ln
      · obtain ⟨b, off, hA, hbl, hcells⟩ := HZ.out.2 (by omega)
        have hzl : k < zs.length := by rw [HZ.out.1]; exact hlt
        obtain ⟨e0, z0, z1⟩ := hcells k _ (List.getElem?_eq_getElem hzl)
        generalize zs[k] = z at *
        subst hA
        have f0 := ((K1.out.trans hB.kept (fun _ _ h => h)).cell (p := ⟨b, off + k, none⟩) hbl (by simp)).trans e0
        have HB := Lib.hid hB
        have b0 : (0 : Int) ≤ (k : Int) := by omega
        have b1 : (k : Int) < (ln : Int) := by omega
        clear hB hcells e0
        obtain ⟨owA, hMA, hLA⟩ := HB.out.left
        have hst := m_step (HG.out.steps S) (HF.out.same (Mk.same_steps m0 S)) hMA (z % 8)
        rw [Mk.steps_add] at hst
        have HST := Lib.hid hst
        have HLA := Lib.hid hLA
        have hS2 : (S : Int) + z % 8 ≤ 1000 := by omega
        clear hst hMA hLA
        go_wp2_with fail
        refine HST.out.mono ?_
        rintro e w4 ⟨rfl, hp⟩
        have HR : Hid (Rel1 w1 ga gb m0 (k + 1) (.int .i64 ((S : Int) + z % 8)) (.bool (((m0.steps (S + (z % 8).toNat)).queue.length : Int) == 0)) w4) :=
          ⟨S + (z % 8).toNat, _, by congr 1; omega, rfl, by omega, fun _ => rfl, HLA.out _ _ hp⟩
        clear hp HST HLA HB f0
        go_wp2
        go_roundw
        case rel => exact ⟨k + 1, by omega, by go_num, HR.out⟩
        case measure => simp [intOf]; omega
      · obtain rfl : k = ln := by omega
        have HB := Lib.hid hB
        obtain ⟨owB, hMB, hLB⟩ := hB.swap.left
        have hst := m_step HG.out HF.out hMB (S : Int)
        rw [Int.toNat_natCast] at hst
        have HST := Lib.hid hst
        have HLB := Lib.hid hLB
        have HEB := Lib.hid heb
        clear hst hMB hLB hB heb hlt
        go_wp2_with fail
        refine HST.out.mono ?_
        rintro e w4 ⟨rfl, hp⟩
        have hB4 := (HLB.out _ _ hp).swap
        have HGS := Lib.hid (HG.out.steps S)
        have HFS := Lib.hid (HF.out.same (Mk.same_steps m0 S))
        clear hp HST HLB HB HG HF R0
        have hqS : (m0.steps S).queue.length ≤ 1000 := by
          have h1 := HGS.out.few
          have h2 := HFS.out.1
          omega
        obtain ⟨owA, hMA, _⟩ := hB4.left
        have HGA := Lib.hid (m_gray hMA hqS)
        have HB4 := Lib.hid hB4
        generalize hmS : m0.steps S = mS at *
        clear hMA hB4
        obtain ⟨dn, hdn⟩ : ∃ dn, dn = ((mS.queue.length : Int) == 0) := ⟨_, rfl⟩
        have key : k = 0 ∨ (decide (0 < k) = true ∧ eb = false ∧ dn = false) ∨ (decide (0 < k) = true ∧ eb = true ∧ dn = true) := by
          rcases Nat.eq_zero_or_pos k with h | h
          · exact .inl h
          · have := HEB.out h
            rw [← hdn] at this
            subst this
            cases eb
            · exact .inr (.inl ⟨by simp [h], rfl, rfl⟩)
            · exact .inr (.inr ⟨by simp [h], rfl, rfl⟩)
        have HQS := Lib.hid hqS
        clear HEB hqS
        rw [← hdn]
        clear hdn
        rcases key with rfl | ⟨tk, rfl, rfl⟩ | ⟨tk, rfl, rfl⟩
        all_goals
          go_wp2_with fail
          refine HGA.out.mono ?_
          rintro e w5 ⟨v, rfl, A1, c1', rfl, r1, f1, k5⟩
          have hB5 := HB4.out.later k5
          obtain ⟨owB, hMB, _⟩ := hB5.swap.left
          have HGB := Lib.hid (m_gray hMB HQS.out)
          have HB5 := Lib.hid hB5
          have R1 := Lib.hid r1
          clear hMB hB5 r1 f1 k5 HGA HB4
          go_wp2_with fail
          refine HGB.out.mono ?_
          rintro e w6 ⟨v, rfl, A2, c2', rfl, r2, f2, k6⟩
          have HI := Lib.hid (ints_same A1 A2 mS.queue.length c1' c2' mS.queue w6 (R1.out.src.kept k6 (fun _ _ h => h)) r2.src (by have := HQS.out; omega))
          have HB6 := Lib.hid (HB5.out.later k6)
          clear R1 r2 f2 k6 HGB HB5
          go_wp2_with fail
          refine HI.out.mono ?_
          rintro e w7 ⟨rfl, k7⟩
          have HB7 := Lib.hid (HB6.out.later k7)
          clear k7 HI HB6
          go_wp2
          go_loopw [13] (fun i wr => ∃ k : Nat, k ≤ on ∧ i = .int .i64 (k : Int) ∧ Both w1 wr ga gb mS mS) (fun i _ => on - (intOf i).toNat)
          case atStart => exact ⟨0, Nat.zero_le _, rfl, HB7.out⟩
          case round =>
            obtain ⟨j, hj, rfl, hB⟩ := hrel
            have hbx3 := HBX.out.kept hB.kept (by simp)
            have d0 := hbx3.cell 0
            by_cases hjl : j < on
            · obtain ⟨b, off, hA, hbl, hcells⟩ := H1.out.objs.at_ (by omega)
              have hlen := H1.out.objs.len
              have e0 := (hcells j _ (List.getElem?_eq_getElem (by omega))).1
              have hid : I64 (os[j]'(by omega)).id := (H1.out.pre _ (List.getElem_mem (by omega))).iid
              generalize (os[j]'(by omega)).id = oid at *
              have f0 := (hB.kept.cell (p := ⟨b, off + j * 5, none⟩) hbl (by simp)).trans e0
              subst hA
              have HB := Lib.hid hB
              have b0 : (0 : Int) ≤ (j : Int) := by omega
              have b1 : (j : Int) < (on : Int) := by omega
              obtain ⟨owA, hMA, _⟩ := HB.out.left
              obtain ⟨owB, hMB, _⟩ := HB.out.swap.left
              have qa := quiet_color HGS.out hMA hid
              have qb := quiet_color HGS.out hMB hid
              have QA := Lib.hid qa
              have QB := Lib.hid qb
              clear hcells e0 hlen hbx3 hB hMA hMB qa qb
              go_wp2_with fail
              go_quiet ((go_at_call 14; first | (with_reducible exact Calls.quiet_of_same (QA.out _)) | (with_reducible exact Calls.quiet_of_same (QB.out _))))
              go_wp2
              go_roundw
              case rel => exact ⟨j + 1, by omega, by go_num, HB.out.later ((Kept.refl _ _).drewN _)⟩
              case measure => simp [intOf]; omega
            · obtain rfl : j = on := by omega
              have HB := Lib.hid hB
              clear hbx3 hB hjl
              go_wp2_with fail
              refine (HLV.out _).mono ?_
              rintro e w8 ⟨rfl, k8⟩
              have K8 : Hid (Kept (fun _ => False) w w8) := (K1.out.trans HB.out.kept (fun _ _ h => h)).trans k8 (fun _ _ h => h)
              clear k8
              go_wp2
              go_ret
              exact ⟨rfl, K8.out⟩
  · obtain hck : chk 0 os = false := by simpa using hck
    have HN := Lib.hid (new_bad oA rA on oc rn rc os w1 H1.out.objs (by omega) hck)
    go_wp2_with fail
    refine HN.out.mono ?_
    rintro e w2 ⟨rfl, k2⟩
    have K2 : Hid (Kept (fun _ => False) w w2) := K1.out.trans k2 (fun _ _ h => h)
    have hbx2 := HBX.out.kept k2 (by simp)
    have d0 := hbx2.cell 0
    have d1 := hbx2.cell 1
    have HN2 := Lib.hid (new_bad oA rA on oc rn rc os w2 ((H1.out.objs).later k2) (by omega) hck)
    clear k2 HN hbx2
    go_wp2_with fail
    refine HN2.out.mono ?_
    rintro e w3 ⟨rfl, k3⟩
    have K3 : Hid (Kept (fun _ => False) w w3) := K2.out.trans k3 (fun _ _ h => h)
    clear k3 HN2
    go_wp2_with fail
    refine (HLV.out _).mono ?_
    rintro e w4 ⟨rfl, k4⟩
    have K4 : Hid (Kept (fun _ => False) w w4) := K3.out.trans k4 (fun _ _ h => h)
    clear k4
    go_wp2
    go_ret
    exact ⟨rfl, K4.out⟩
theorem steps_walk2 (w : World) (oA rA : Option Addr) (on oc rn rc : Nat) (os : List Ob) (rs : List Int) (h : Gr w oA rA on oc rn rc os rs) {lA : Option Addr} {ln lc : Nat} (zs : List Int) (hz : Bts w lA ln zs) :
    Calls Try.prog 3 #[.agg #[.slice oA on oc, .slice rA rn rc], .slice lA ln lc] w fun e w' => e = .returned (.bool true) ∧ Kept (fun _ => False) w w' := steps_walk w oA rA lA on oc rn rc ln lc os rs zs h hz
end Go.Proofs.Ytalhldfcdfdoeaa
