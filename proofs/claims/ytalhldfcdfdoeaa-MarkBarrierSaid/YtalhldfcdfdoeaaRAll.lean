/- What is proved here: what the reference's Reach answers: the ids of the objects that are black after all steps. Condition: the argument lies in memory as that graph. -/
import Derived.Test.YtalhldfcdfdoeaaRStep
import Derived.Test.YtalhldfcdfdoeaaLaw
namespace Go.Proofs.Ytalhldfcdfdoeaa
open Go.RowKit

set_option maxHeartbeats 1000000 in
theorem rreach_bad (oA rA : Option Addr) (on oc rn rc : Nat) (os : List Ob) (w : World) (h : Objs w oA on os) (hn : on ≤ 1000) (hck : chk 0 os = false) :
    Calls Try.prog 16 #[.agg #[.slice oA on oc, .slice rA rn rc]] w fun e w' => e = .returned (.tuple #[.slice none 0 0, .int .i64 2]) ∧ Kept (fun _ => False) w w' := by
  have HC := Lib.hid (rnew_bad oA rA on oc rn rc os (w.alloc (.cells #[.slice oA on oc, .slice rA rn rc] 25)) (h.later ((Kept.refl _ w).alloc _)) hn hck)
  clear h
  go_enter Try.func16, Try.ntmps16
  go_wp2_with fail
  refine HC.out.mono ?_
  rintro e w1 ⟨rfl, k1⟩
  have K1 := Lib.hid k1
  clear k1 HC
  go_wp2
  go_ret2
  exact ⟨rfl, ((Kept.refl _ w).alloc _).trans K1.out (fun _ _ h => h)⟩

def RSt (w : World) (cs : Array Value) (g : Nat) (m : Mk) (os : List Ob) (k : Nat) (v : Value) (wr : World) : Prop :=
  ∃ ow A c, v = .slice A (bl m os k).length c ∧ Row wr A (bl m os k).length c (bl m os k) ∧ (∀ r, rowBlk A = some r → w.heap.size < r ∧ ¬ Own ow r) ∧ RMem wr ow g os m ∧ (∀ j, Own ow j → w.heap.size < j) ∧ Kept (fun _ => False) w wr ∧ Blk wr w.heap.size 25 cs

set_option maxHeartbeats 8000000 in
theorem rreach_ok (oA rA : Option Addr) (on oc rn rc : Nat) (os : List Ob) (rs : List Int) (w : World) (h : Objs w oA on os) (hob : ∀ o, o ∈ os → ObOk w o) (hrs : Src w rA rn rs) (hn : on ≤ 100) (hrn : rn ≤ 1000) (hck : chk 0 os = true) :
    Calls Try.prog 16 #[.agg #[.slice oA on oc, .slice rA rn rc]] w fun e w' => ∃ v, e = .returned (.tuple #[v, .int .i64 0]) ∧ W.Late w (bl (mkEnd os rs) os os.length) v w' := by
  obtain ⟨w0, hw0⟩ : ∃ w0, w0 = w.alloc (.cells #[.slice oA on oc, .slice rA rn rc] 25) := ⟨_, rfl⟩
  have kw0 : Kept (fun _ => False) w w0 := by rw [hw0]; exact (Kept.refl _ w).alloc _
  have hbx0 : Blk w0 w.heap.size 25 #[.slice oA on oc, .slice rA rn rc] := by rw [hw0]; exact Blk.new w 25 _
  have hc := rnew_ok oA rA on oc rn rc os rs w0 (h.later kw0) (hrs.kept kw0 (fun _ _ h => h)) hn hrn hck
  rw [hw0] at hc
  have HC := Lib.hid hc
  have H := Lib.hid h
  have HOB : Hid (∀ o, o ∈ os → ObOk w0 o) := fun o ho => (hob o ho).later kw0
  have HW0 := Lib.hid hw0
  have KW0 := Lib.hid kw0
  have HBX0 := Lib.hid hbx0
  have HCK := Lib.hid hck
  have hlen := h.len
  clear hc h hob hrs hw0 kw0 hbx0 hck
  obtain ⟨m1, hm1⟩ : ∃ m1, m1 = mkEnd os rs := ⟨_, rfl⟩
  rw [← hm1]
  have HM1 := Lib.hid hm1
  clear hm1
  go_enter Try.func16, Try.ntmps16
  go_wp2_with fail
  refine HC.out.mono ?_
  rintro e w1 ⟨g, ow, rfl, hM, ho, k1⟩
  rw [← HW0.out] at ho k1
  have hbx := HBX0.out.kept k1 (by simp)
  have d0 := hbx.cell 0
  have d1 := hbx.cell 1
  have hsm : Mk.Same (mkNew os rs).nodes (mk0 os).nodes := Mk.same_reaches _ _
  have hs := r_step (chk_asc 0 os HCK.out).2 (by omega) ((mk0_good HCK.out).reaches rs) hsm HOB.out k1 ho hM on (by omega)
  rw [show (List.foldl Mk.reach (mk0 os) rs).steps on = m1 by rw [HM1.out, ← hlen]; rfl] at hs
  have HS := Lib.hid hs
  have HO1 := Lib.hid ho
  have K1 := Lib.hid k1
  have hsz : w.heap.size < w0.heap.size := HBX0.out.lt
  clear hM ho k1 hs hbx HC hsm
  go_wp2_with fail
  refine HS.out.mono ?_
  rintro e w2 ⟨rfl, ow2, hM2, k2, s2⟩
  have K2 : Hid (Kept (fun _ => False) w0 w2) := K1.out.trans k2 (fun i hi hf => by have := HO1.out i hf; omega)
  have R0 : Hid (RSt w #[.slice oA on oc, .slice rA rn rc] g m1 os 0 (.slice none 0 0) w2) := by
    refine ⟨ow2, none, 0, rfl, Row.nil _, by simp [rowBlk], hM2, fun j hj => ?_, KW0.out.trans K2.out (fun _ _ h => h), HBX0.out.kept K2.out (by simp)⟩
    rcases s2 j hj with h | h
    · have := HO1.out j h; omega
    · have := K1.out.size; omega
  have HG1 : Hid m1.Good := by rw [HM1.out]; exact end_good HCK.out
  have HSM1 : Hid (Mk.Same m1.nodes (mk0 os).nodes) := by rw [HM1.out]; exact end_same
  clear hM2 k2 s2 HS HO1 K1 d0 d1
  go_wp2
  go_loopw [6, 7] (fun v i wr => ∃ k : Nat, k ≤ on ∧ i = .int .i64 (k : Int) ∧ RSt w #[.slice oA on oc, .slice rA rn rc] g m1 os k v wr) (fun _ i _ => on - (intOf i).toNat)
  case atStart => exact ⟨0, Nat.zero_le _, rfl, R0.out⟩
  case round =>
    obtain ⟨k, hk, rfl, ow3, A, c, rfl, row, fr, hM3, own3, kk, hbx⟩ := hrel
    have e0 := hbx.cell 0
    by_cases hlt : k < on
    · obtain ⟨b, off, hA, hbl2, hcells⟩ := H.out.at_ (by omega)
      have p0 := (hcells k _ (List.getElem?_eq_getElem (by omega))).1
      have q0 := (kk.cell (p := ⟨b, off + k * 5, none⟩) hbl2 (by simp)).trans p0
      have HSN := Lib.hid (bl_snoc m1 os k (by omega))
      have hbl3 := bl_len m1 os k
      obtain ⟨x, hx, hxi⟩ := same_index HSM1.out (List.getElem?_eq_getElem (by omega : k < os.length))
      have hcol := colOf_index HG1.out.asc hx
      rw [hxi] at hcol
      generalize (os[k]'(by omega)).id = oid at *
      subst hA
      have HR3 := Lib.hid hM3
      obtain ⟨oA3, oc3, cA3, cc3, qA3, qc3, j1, j2, j3, j4, _⟩ := hM3
      have d2 := j1.cell 2
      obtain ⟨cb, co, z, hcA, hcb, hz, hcell⟩ := j3.src.at_ (j := k) (by omega)
      have hzx : z = (x.col : Int) := by
        unfold colsOf at hz
        rw [List.getElem?_map, hx] at hz
        simpa using hz.symm
      subst hzx hcA
      have ROW := Lib.hid row
      have FR := Lib.hid fr
      have OWN3 := Lib.hid own3
      have KK := Lib.hid kk
      have HBX := Lib.hid hbx
      have HCOL := Lib.hid hcol
      have b0 : (0 : Int) ≤ (k : Int) := by omega
      have b1 : (k : Int) < (on : Int) := by omega
      rw [hlen] at d2
      have hbw : b < wr.heap.size := Nat.lt_of_lt_of_le hbl2 kk.size
      have hkd : (bl m1 os k).length ≤ 100 := by omega
      have hbxl := hbx.lt
      clear row fr own3 kk hbx hcol hcells p0 j1 j2 j3 j4 hz hx hxi
      by_cases h2 : x.col = 2
      · have t2 : ((x.col : Int) == 2) = true := by simp; omega
        have HSN2 : Hid (bl m1 os (k + 1) = bl m1 os k ++ [oid]) := by
          have := HSN.out
          rw [HCOL.out, h2, if_pos rfl] at this
          exact this
        have hr : Row (wr.alloc (.cells #[.int .i64 oid] 3)) A (bl m1 os k).length c (bl m1 os k) := ROW.out.kept ((Kept.refl (fun _ => False) wr).alloc _) (by simp)
        have hsr : Src (wr.alloc (.cells #[.int .i64 oid] 3)) (some ⟨wr.heap.size, 0, none⟩) 1 [oid] := (Row.new wr [oid] (by show 1 ≤ maxLen; decide)).src
        have R := Lib.hid hr
        have SR := Lib.hid hsr
        have hb8 : ((bl m1 os k).length + 1) * 8 ≤ 140737488355328 := by omega
        have HB8 := Lib.hid hb8
        clear hr hsr hb8
        generalize hbb : bl m1 os k = pre at *
        go_wp2_with (at_builtin; refine wpList_append_Row _ rfl _ _ rfl A _ c pre rfl R.out (some ⟨wr.heap.size, 0, none⟩) 1 1 [oid] rfl SR.out (by simp) HB8.out ?_)
        intro A' c' w4 r1 r2 r3
        have HNEW : Hid (RSt w #[.slice (some ⟨b, off, none⟩) on oc, .slice rA rn rc] g m1 os (k + 1) (.slice A' (pre.length + 1) c') w4) := by
          have kg : Kept (fun k => rowBlk A = some k) wr w4 := ((Kept.refl _ wr).alloc _).grown r2 (fun k hk _ => hk)
          have e : (pre ++ [oid]).length = pre.length + 1 := by simp
          refine ⟨ow3, A', c', by rw [HSN2.out, e], by rw [HSN2.out, e]; exact r1, fun r hr => ?_, HR3.out.kept kg (fun j hj hA => (FR.out j hA).2 hj), OWN3.out, KK.out.trans kg (fun i hi hA => by have := (FR.out i hA).1; omega), HBX.out.kept kg (fun hA => by have := (FR.out _ hA).1; omega)⟩
          rcases r3 with h | ⟨r', h, hr'⟩
          · rw [h] at hr; exact FR.out r hr
          · rw [h] at hr
            injection hr with hr
            subst hr
            try simp only [World.size_alloc] at hr'
            refine ⟨by omega, fun ho => ?_⟩
            have := HR3.out.lt _ ho
            omega
        clear r1 r2 r3 R SR FR KK HR3 OWN3 HBX
        go_wp2
        go_roundw
        case rel => exact ⟨k + 1, by omega, by go_num, HNEW.out⟩
        case measure => simp [intOf]; omega
      · have t2 : ((x.col : Int) == 2) = false := by simp; omega
        have HSN2 : Hid (bl m1 os (k + 1) = bl m1 os k) := by
          have := HSN.out
          rw [HCOL.out, if_neg (by simp [h2]), List.append_nil] at this
          exact this
        have HNEW : Hid (RSt w #[.slice (some ⟨b, off, none⟩) on oc, .slice rA rn rc] g m1 os (k + 1) (.slice A (bl m1 os k).length c) wr) := by
          refine ⟨ow3, A, c, by rw [HSN2.out], by rw [HSN2.out]; exact ROW.out, FR.out, HR3.out, OWN3.out, KK.out, HBX.out⟩
        clear FR KK HR3 OWN3 HBX ROW
        go_wp2
        go_roundw
        case rel => exact ⟨k + 1, by omega, by go_num, HNEW.out⟩
        case measure => simp [intOf]; omega
    · obtain rfl : k = on := by omega
      have HN : Hid (W.Late w (bl m1 os os.length) (.slice A (bl m1 os k).length c) wr) := by
        rw [hlen]
        exact ⟨A, c, rfl, row, fun r hr => by have := (fr r hr).1; omega, kk⟩
      clear row fr hM3 own3 kk hlt hbx
      go_wp2
      go_ret2
      exact ⟨_, rfl, HN.out⟩
end Go.Proofs.Ytalhldfcdfdoeaa
