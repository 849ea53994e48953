/- What is proved here: what the reference's New makes of a graph. Condition: the argument lies in memory as that graph. -/
import Derived.Test.YtalhldfcdfdoeaaRReach
import Derived.Test.YtalhldfcdfdoeaaCopy
import Derived.Test.YtalhldfcdfdoeaaRefCheck
import Derived.Laws.OwnMore
import Derived.Lib.AppendZeros
namespace Go.Proofs.Ytalhldfcdfdoeaa
open Go.RowKit

theorem madeRow (w : World) (n : Nat) (hn : n ≤ 1000) : Row (w.alloc (.cells (madeCells #[.int .i64 0] n) 3)) (some ⟨w.heap.size, 0, none⟩) n n (List.replicate n 0) := by
  refine ⟨by simp, Nat.le_refl _, by unfold maxLen; omega, .inr ⟨w.heap.size, 0, _, rfl, heap_alloc_new w _, by rw [size_madeCells]; omega, fun j hj => ?_⟩⟩
  have h := congrArg (fun l => l[j]?) (toList_madeCells_one (.int .i64 0) n)
  simp only [Nat.zero_add]
  rw [← Array.getElem?_toList]
  rw [show (madeCells #[Value.int .i64 0] n).toList[j]? = (List.replicate n (Value.int .i64 0))[j]? from h]
  rw [List.getElem?_replicate, List.getElem?_replicate, if_pos hj, if_pos hj]
  rfl

set_option maxHeartbeats 1000000 in
theorem rnew_bad (oA rA : Option Addr) (on oc rn rc : Nat) (os : List Ob) (w : World) (h : Objs w oA on os) (hn : on ≤ 1000) (hck : chk 0 os = false) :
    Calls Try.prog 28 #[.agg #[.slice oA on oc, .slice rA rn rc]] w fun e w' => e = .returned (.tuple #[.pointer none, .int .i64 2]) ∧ Kept (fun _ => False) w w' := by
  have hc := rcheck_any oA rA on oc rn rc os (w.alloc (.cells #[.slice oA on oc, .slice rA rn rc] 25)) (h.later ((Kept.refl _ w).alloc _)) hn
  rw [chkE, hck] at hc
  simp only [Bool.false_eq_true, if_false] at hc
  have HC := Lib.hid hc
  clear hc h
  go_enter Try.func28, Try.ntmps28
  go_wp2_with fail
  refine HC.out.mono ?_
  rintro e w1 ⟨rfl, k1⟩
  have K1 := Lib.hid k1
  clear k1 HC
  go_wp2
  go_ret2
  exact ⟨rfl, ((Kept.refl _ w).alloc _).trans K1.out (fun _ _ h => h)⟩

set_option maxHeartbeats 8000000 in
theorem rnew_ok (oA rA : Option Addr) (on oc rn rc : Nat) (os : List Ob) (rs : List Int) (w : World) (h : Objs w oA on os) (hrs : Src w rA rn rs) (hn : on ≤ 100) (hrn : rn ≤ 1000) (hck : chk 0 os = true) :
    Calls Try.prog 28 #[.agg #[.slice oA on oc, .slice rA rn rc]] w fun e w' => ∃ g ow, e = .returned (.tuple #[.pointer (some ⟨g, 0, none⟩), .int .i64 0]) ∧ RMem w' ow g os (mkNew os rs) ∧ (∀ k, Own ow k → w.heap.size ≤ k) ∧ Kept (fun _ => False) w w' := by
  have hc := rcheck_any oA rA on oc rn rc os (w.alloc (.cells #[.slice oA on oc, .slice rA rn rc] 25)) (h.later ((Kept.refl _ w).alloc _)) (by omega)
  rw [chkE, hck] at hc
  simp only [if_true] at hc
  have HC := Lib.hid hc
  have H := Lib.hid h
  have HR := Lib.hid hrs
  have HCK := Lib.hid hck
  clear hc h hrs hck
  go_enter Try.func28, Try.ntmps28
  go_wp2_with fail
  refine HC.out.mono ?_
  rintro e w1 ⟨rfl, k1⟩
  have hbx : Blk w1 w.heap.size 25 #[.slice oA on oc, .slice rA rn rc] := (Blk.new w 25 _).kept k1 (by simp)
  have bx0 := hbx.cell 0
  have bx1 := hbx.cell 1
  have hbl := hbx.lt
  have HBX := Lib.hid hbx
  have K1 : Hid (Kept (fun _ => False) w w1) := ((Kept.refl _ w).alloc _).trans k1 (fun _ _ h => h)
  clear k1 HC hbx
  obtain ⟨i0, hi0, hz0, hz1, hz2⟩ := info_parts Try.info3
  have hmk := run_makeSlice (P := Try.prog) w1 23 3 i0 (.int .i64 0) Try.underlying23 hi0 hz0 .i64 .i64 (on : Int) (on : Int) (by omega) (Int.le_refl _) (by rw [hz1]; simp; omega) (by rw [hz2]; omega) (by omega)
  rw [hz1, Int.toNat_natCast, Nat.mul_one] at hmk
  simp only [Value.cells] at hmk
  obtain ⟨V, hV⟩ : ∃ V, V = ((w1.alloc (.cells (madeCells #[.int .i64 0] on) 3)).alloc (.cells #[.slice none 0 0, .slice none 0 0, .slice (some ⟨w1.heap.size, 0, none⟩) on on, .slice none 0 0] 66)).alloc (.cells #[] 39) := ⟨_, rfl⟩
  have kV : Kept (fun _ => False) w1 V := by rw [hV]; exact (((Kept.refl _ w1).alloc _).alloc _).alloc _
  have hVs : V.heap.size = w1.heap.size + 3 := by rw [hV]; simp
  have hBV : V.heap[w1.heap.size + 2]? = some (.cells #[] 39 (0, 0)) := by
    rw [hV]
    have := heap_alloc_new ((w1.alloc (.cells (madeCells #[.int .i64 0] on) 3)).alloc (.cells #[.slice none 0 0, .slice none 0 0, .slice (some ⟨w1.heap.size, 0, none⟩) on on, .slice none 0 0] 66)) (.cells #[] 39)
    simpa using this
  have hOA : oA = none → on = 0 := fun e => by
    rcases Nat.eq_zero_or_pos on with h | h
    · exact h
    · obtain ⟨_, _, e2, _⟩ := H.out.at_ h
      rw [e] at e2
      cases e2
  obtain ⟨A', c', w2, hrun, ho2, hg2, r, hA', hr, hrl⟩ := run_copy V (w1.heap.size + 2) hBV (oc := oc) ((H.out.later K1.out).later kV) hOA (by omega)
  rw [hV] at hrun
  have hbl2 : w.heap.size < w1.heap.size + 1 := by omega
  have hbl3 : w.heap.size < w1.heap.size + 1 + 1 := by omega
  have hbl4 : w.heap.size < w1.heap.size + 2 := by omega
  have vb0 : V.cell? ⟨w.heap.size, 0, none⟩ = some (.slice oA on oc) := (kV.cell (p := ⟨w.heap.size, 0, none⟩) hbl (by simp)).trans bx0
  rw [hV] at vb0
  have HRUN := Lib.hid hrun
  have HV := Lib.hid hV
  have KV := Lib.hid kV
  have hk2 : Kept (fun k => k = w1.heap.size + 2) V w2 := (Kept.refl _ V).grown hg2 (fun k hk _ => by injection hk with hk; exact hk.symm)
  have hVg : Blk V (w1.heap.size + 1) 66 #[.slice none 0 0, .slice none 0 0, .slice (some ⟨w1.heap.size, 0, none⟩) on on, .slice none 0 0] := by
    rw [hV]
    have := (Blk.new (w1.alloc (.cells (madeCells #[.int .i64 0] on) 3)) 66 #[.slice none 0 0, .slice none 0 0, .slice (some ⟨w1.heap.size, 0, none⟩) on on, .slice none 0 0]).alloc (.cells #[] 39)
    simpa using this
  have hg2b := hVg.kept hk2 (by omega)
  have f0 := hg2b.cell 0
  have ff := hg2b.frozen 0
  have hrowC : Row w2 (some ⟨w1.heap.size, 0, none⟩) on on (List.replicate on 0) := by
    have h1 := madeRow w1 on (by omega)
    have k1 : Kept (fun _ => False) (w1.alloc (.cells (madeCells #[.int .i64 0] on) 3)) V := by rw [hV]; exact ((Kept.refl _ _).alloc _).alloc _
    exact (h1.kept k1 (by simp)).kept hk2 (fun r hr e => by simp [rowBlk] at hr; omega)
  have hb2 := ((HBX.out.kept kV (by simp)).kept hk2 (by omega)).cell 1
  have hb2' := ((HBX.out.kept kV (by simp)).kept hk2 (by omega))
  obtain ⟨w3, hw3⟩ : ∃ w3, w3 = w2.setCell ⟨w1.heap.size + 1, 0, none⟩ (.slice A' on c') := ⟨_, rfl⟩
  have k3 : Kept (fun k => k = w1.heap.size + 1) w2 w3 := by rw [hw3]; exact (Kept.refl (fun k => k = w1.heap.size + 1) w2).setCell (fun _ => rfl) _
  have R0 : Hid (∃ ow, RMem w3 ow (w1.heap.size + 1) os (mkNew os (rs.take 0)) ∧ (∀ k, Own ow k → w1.heap.size ≤ k) ∧ Kept (fun _ => False) w1 w3) := by
    have hlen := H.out.len
    have hrB : r = w1.heap.size + 2 ∨ w1.heap.size + 3 ≤ r := by omega
    refine ⟨fun k => if k = w1.heap.size + 1 then some 0 else if k = w1.heap.size then some 1 else if k = r then some 3 else none, ⟨A', c', some ⟨w1.heap.size, 0, none⟩, on, none, 0, ?_, ?_, ?_, Row.nil _, by simp, ?_, by simp [rowBlk], ?_, ?_⟩, ?_, ?_⟩
    · have := hg2b.set_ 0 (.slice A' on c')
      rw [hw3, hlen]
      simp only [mkNew, List.take_zero, List.foldl_nil, mk0, List.length_nil]
      simpa using this
    · rw [hlen]
      refine ho2.keptF k3 (fun r' hr' e => ?_)
      rw [hA'] at hr'
      simp [rowBlk] at hr'
      omega
    · rw [hlen]
      have e : colsOf (mkNew os (rs.take 0)).nodes = List.replicate on 0 := by
        unfold mkNew colsOf mk0
        simp only [List.take_zero, List.foldl_nil, List.map_map]
        rw [← hlen]
        rw [← List.map_const']
        apply List.map_congr_left
        intro o _
        rfl
      rw [e]
      exact hrowC.kept k3 (fun r hr e => by simp [rowBlk] at hr; omega)
    · intro r' hr'
      simp [rowBlk] at hr'
      subst hr'
      show (if _ then _ else _) = _
      rw [if_neg (by omega), if_pos rfl]
    · intro r' hr'
      rw [hA'] at hr'
      simp [rowBlk] at hr'
      subst hr'
      show (if _ then _ else _) = _
      rw [if_neg (by omega), if_neg (by omega), if_pos rfl]
    · intro k t ht
      have h1 := k3.size
      have h2 := hk2.size
      simp only at ht
      split at ht
      · omega
      · split at ht
        · omega
        · split at ht
          · omega
          · cases ht
    · rintro k ⟨t, ht⟩
      simp only at ht
      split at ht
      · omega
      · split at ht
        · omega
        · split at ht
          · omega
          · cases ht
    · exact (kV.trans hk2 (fun i hi e => by omega)).trans k3 (fun i hi e => by omega)
  have hb3 := (hb2'.kept k3 (by omega)).cell 1
  have HB3 : Hid (Blk w3 w.heap.size 25 #[.slice oA on oc, .slice rA rn rc]) := hb2'.kept k3 (by omega)
  have hon9 : os.length ≤ 1000 := by rw [H.out.len]; omega
  have HASC := Lib.hid (chk_asc 0 os HCK.out).2
  have hbl9 : w.heap.size < w1.heap.size := hbl
  have HW3 := Lib.hid hw3
  have HB2 := Lib.hid hb2
  have HR9 : Hid (∃ k : Nat, k ≤ rn ∧ (.int .i64 0 : Value) = .int .i64 (k : Int) ∧ ∃ ow, RMem w3 ow (w1.heap.size + 1) os (mkNew os (rs.take k)) ∧ (∀ k, Own ow k → w1.heap.size ≤ k) ∧ Kept (fun _ => False) w1 w3) := ⟨0, Nat.zero_le _, rfl, R0.out⟩
  rw [hw3] at HR9
  subst hA'
  clear hk2 hVg hg2b hrowC hb2' k3 hb3 HB3 ho2 hg2 hr hrl hBV hVs kV hV hw3 R0 HW3 HV KV hrun
  go_wp2_with (at_builtin; refine Lib.wpList_append_run _ rfl (.tmp 16) (.tmp 18) 22 22 rfl _ _ rfl rfl _ _ HRUN.out ?_)
  go_loopw [5] (fun i wr => ∃ k : Nat, k ≤ rn ∧ i = .int .i64 (k : Int) ∧ ∃ ow, RMem wr ow (w1.heap.size + 1) os (mkNew os (rs.take k)) ∧ (∀ k, Own ow k → w1.heap.size ≤ k) ∧ Kept (fun _ => False) w1 wr) (fun i _ => rn - (intOf i).toNat)
  case atStart => exact HR9.out
  case round =>
    obtain ⟨j, hj, rfl, ow, hMM, hown, kk⟩ := hrel
    have c1 := (HBX.out.kept kk (by simp)).cell 1
    by_cases hjr : j < rn
    · obtain ⟨rb, roff, x, hA, hrb, hx, hcell⟩ := HR.out.at_ hjr
      have e0 := ((K1.out.trans kk (fun _ _ h => h)).cell (p := ⟨rb, roff + j, none⟩) hrb (by simp)).trans hcell
      subst hA
      have hfew : (mkNew os (rs.take j)).queue.length ≤ 1000 := by
        have h1 := ((mk0_good HCK.out).reaches (rs.take j)).few
        have h2 : (mkNew os (rs.take j)).nodes.length = (mk0 os).nodes.length := reaches_length _ _
        have h3 : (mk0 os).nodes.length = os.length := by simp [mk0]
        have h4 : (mkNew os (rs.take j)).queue.length ≤ (mkNew os (rs.take j)).nodes.length := h1
        omega
      have hc := r_reach (m := mkNew os (rs.take j)) HASC.out hon9 (Mk.same_reaches _ _) hMM x hfew
      have hstep : (mkNew os (rs.take j)).reach x = mkNew os (rs.take (j + 1)) := by
        obtain ⟨hjl, he⟩ := List.getElem?_eq_some_iff.1 hx
        rw [List.take_succ_eq_append_getElem hjl, he]
        unfold mkNew
        rw [List.foldl_append]
        rfl
      rw [hstep] at hc
      have HC := Lib.hid hc
      have HOWN := Lib.hid hown
      have KK := Lib.hid kk
      have b0 : (0 : Int) ≤ (j : Int) := by omega
      have b1 : (j : Int) < (rn : Int) := by omega
      clear hc hMM hown kk hfew hstep hcell hx
      go_wp2_with fail
      refine HC.out.mono ?_
      rintro e w4 ⟨rfl, ow', hM2, k2, s2⟩
      have HN : Hid (∃ ow, RMem w4 ow (w1.heap.size + 1) os (mkNew os (rs.take (j + 1))) ∧ (∀ k, Own ow k → w1.heap.size ≤ k) ∧ Kept (fun _ => False) w1 w4) := by
        refine ⟨ow', hM2, fun k hk => ?_, KK.out.trans k2 (fun i hi hf => ?_)⟩
        · rcases s2 k hk with h | h
          · exact HOWN.out k h
          · exact Nat.le_trans KK.out.size h
        · have := HOWN.out i hf; omega
      clear hM2 k2 s2 HC KK HOWN e0
      go_wp2
      go_roundw
      case rel => exact ⟨j + 1, by omega, by go_num, HN.out⟩
      case measure => simp [intOf]; omega
    · obtain rfl : j = rn := by omega
      rw [List.take_of_length_le (by rw [HR.out.1]; exact Nat.le_refl _)] at hMM
      have HM := Lib.hid hMM
      have HOWN := Lib.hid hown
      have KK := Lib.hid kk
      clear hMM hown kk hjr
      go_wp2
      go_ret2
      exact ⟨w1.heap.size + 1, ow, rfl, HM.out, fun k hk => by have := HOWN.out k hk; have := K1.out.size; omega, K1.out.trans KK.out (fun _ _ h => h)⟩
end Go.Proofs.Ytalhldfcdfdoeaa
