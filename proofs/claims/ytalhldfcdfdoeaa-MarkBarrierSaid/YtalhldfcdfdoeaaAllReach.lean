/- What is proved here: what mark.Reach answers: the ids of the objects that are black after all steps. Condition: the argument lies in memory as that graph. -/
import Derived.Test.YtalhldfcdfdoeaaUse
namespace Go.Proofs.Ytalhldfcdfdoeaa
open Go.RowKit

/-- The ids of the black ones among the first k objects. -/
def bl (m : Mk) (os : List Ob) (k : Nat) : List Int := ((os.take k).filter fun o => Mk.colOf m.nodes o.id == some 2).map Ob.id
theorem bl_snoc (m : Mk) (os : List Ob) (k : Nat) (h : k < os.length) : bl m os (k + 1) = bl m os k ++ (if Mk.colOf m.nodes os[k].id = some 2 then [os[k].id] else []) := by
  unfold bl
  rw [List.take_succ_eq_append_getElem h, List.filter_append, List.map_append]
  congr 1
  by_cases e : Mk.colOf m.nodes os[k].id = some 2
  · simp [e]
  · simp [e]
theorem bl_len (m : Mk) (os : List Ob) (k : Nat) : (bl m os k).length ≤ os.length := by
  unfold bl
  rw [List.length_map]
  exact Nat.le_trans (List.length_filter_le _ _) (by rw [List.length_take]; omega)

def RState (w : World) (g : Nat) (m : Mk) (os : List Ob) (k : Nat) (v : Value) (wr : World) : Prop :=
  ∃ ow A c, v = .slice A (bl m os k).length c ∧ Row wr A (bl m os k).length c (bl m os k) ∧ (∀ r, rowBlk A = some r → w.heap.size ≤ r ∧ ¬ Own ow r) ∧ MMem wr ow g m ∧ (∀ j, Own ow j → w.heap.size ≤ j) ∧ Kept (fun _ => False) w wr

set_option maxHeartbeats 1000000 in
theorem reach_bad (oA rA : Option Addr) (on oc rn rc : Nat) (os : List Ob) (w : World) (h : Objs w oA on os) (hn : on ≤ 1000) (hck : chk 0 os = false) :
    Calls Try.prog 15 #[.agg #[.slice oA on oc, .slice rA rn rc]] w fun e w' => e = .returned (.tuple #[.slice none 0 0, .int .i64 2]) ∧ Kept (fun _ => False) w w' := by
  have HC := Lib.hid (new_bad oA rA on oc rn rc os (w.alloc (.cells #[.slice oA on oc, .slice rA rn rc] 25)) (h.later ((Kept.refl _ w).alloc _)) hn hck)
  clear h
  go_enter Try.func15, Try.ntmps15
  go_wp2_with fail
  refine HC.out.mono ?_
  rintro e w1 ⟨rfl, k1⟩
  have K1 := Lib.hid k1
  clear k1 HC
  go_wp2
  go_ret2
  exact ⟨rfl, ((Kept.refl _ w).alloc _).trans K1.out (fun _ _ h => h)⟩

set_option maxHeartbeats 8000000 in
theorem reach_ok (oA rA : Option Addr) (on oc rn rc : Nat) (os : List Ob) (rs : List Int) (w : World) (h : Objs w oA on os) (hob : ∀ o, o ∈ os → ObOk w o) (hrs : Src w rA rn rs) (hri : ∀ r, r ∈ rs → I64 r) (hn : on ≤ 100) (hrn : rn ≤ 1000) (hck : chk 0 os = true) :
    Calls Try.prog 15 #[.agg #[.slice oA on oc, .slice rA rn rc]] w fun e w' => ∃ v, e = .returned (.tuple #[v, .int .i64 0]) ∧ W.Late w (bl ((mkNew os rs).steps on) os on) v w' := by
  obtain ⟨w0, hw0⟩ : ∃ w0, w0 = w.alloc (.cells #[.slice oA on oc, .slice rA rn rc] 25) := ⟨_, rfl⟩
  have kw0 : Kept (fun _ => False) w w0 := by rw [hw0]; exact (Kept.refl _ w).alloc _
  have hbx0 : Blk w0 w.heap.size 25 #[.slice oA on oc, .slice rA rn rc] := by rw [hw0]; exact Blk.new w 25 _
  have hob0 : ∀ o, o ∈ os → ObOk w0 o := fun o ho => (hob o ho).later kw0
  have hc := new_ok oA rA on oc rn rc os rs w0 (h.later kw0) hob0 (hrs.kept kw0 (fun _ _ h => h)) hri hn hrn hck
  rw [hw0] at hc
  have HC := Lib.hid hc
  have H := Lib.hid h
  have HO := Lib.hid hob
  have HG := Lib.hid (mkNew_good hck rs)
  have HF := Lib.hid (mkNew_few hob (by rw [h.len]; exact hn) rs)
  have HW0 := Lib.hid hw0
  have KW0 := Lib.hid kw0
  have HBX0 := Lib.hid hbx0
  have hsame : Mk.Same (mkNew os rs).nodes (mk0 os).nodes := Mk.same_reaches _ _
  have HSM := Lib.hid hsame
  clear hc h hob hrs hri hw0 kw0 hbx0 hob0 hsame
  obtain ⟨m0, hm0⟩ : ∃ m0, m0 = mkNew os rs := ⟨_, rfl⟩
  rw [← hm0] at HC HG HF HSM ⊢
  clear hm0
  obtain ⟨m1, hm1⟩ : ∃ m1, m1 = m0.steps on := ⟨_, rfl⟩
  rw [← hm1]
  have HG1 : Hid m1.Good := by rw [hm1]; exact HG.out.steps on
  have HSM1 : Hid (Mk.Same m1.nodes (mk0 os).nodes) := by rw [hm1]; exact (Mk.same_steps m0 on).trans HSM.out
  have HM1 := Lib.hid hm1
  clear hm1
  go_enter Try.func15, Try.ntmps15
  go_wp2_with fail
  refine HC.out.mono ?_
  rintro e w1 ⟨g, ow, rfl, hM, ho, k1⟩
  rw [← HW0.out] at ho k1
  have hbx := HBX0.out.kept k1 (by simp)
  have d0 := hbx.cell 0
  have d1 := hbx.cell 1
  have hs := m_step HG.out HF.out hM (on : Int)
  rw [Int.toNat_natCast, ← HM1.out] at hs
  have HS := Lib.hid hs
  have HO1 : Hid (∀ j, Own ow j → w0.heap.size ≤ j) := ho
  have K1 := Lib.hid k1
  have HBX := Lib.hid hbx
  have hsz : w.heap.size < w0.heap.size := HBX0.out.lt
  clear hM ho k1 hs hbx HC
  go_wp2_with fail
  refine HS.out.mono ?_
  rintro e w2 ⟨rfl, ow2, hM2, k2, s2⟩
  have K2 : Hid (Kept (fun _ => False) w0 w2) := K1.out.trans k2 (fun i hi hf => by have := HO1.out i hf; omega)
  have hbx2 := HBX0.out.kept K2.out (by simp)
  have f0 := hbx2.cell 0
  have R0 : Hid (RState w g m1 os 0 (.slice none 0 0) w2) := by
    refine ⟨ow2, none, 0, rfl, Row.nil _, by simp [rowBlk], hM2, fun j hj => ?_, KW0.out.trans K2.out (fun _ _ h => h)⟩
    rcases s2 j hj with h | h
    · have := HO1.out j h; omega
    · have := K1.out.size; omega
  clear hM2 k2 s2 HS hbx2 HO1 K1 HG HF HSM d0 d1
  go_wp2
  go_loopw [6, 25] (fun v i wr => ∃ k : Nat, k ≤ on ∧ i = .int .i64 (k : Int) ∧ RState w g m1 os k v wr) (fun _ i _ => on - (intOf i).toNat)
  case atStart => exact ⟨0, Nat.zero_le _, rfl, R0.out⟩
  case round =>
    obtain ⟨k, hk, rfl, ow3, A, c, rfl, row, fr, hM3, own3, kk⟩ := hrel
    by_cases hlt : k < on
    · obtain ⟨b, off, hA, hbl2, hcells⟩ := H.out.at_ (by omega)
      have hlen := H.out.len
      obtain ⟨p0, p1, p2, p3, p4⟩ := hcells k _ (List.getElem?_eq_getElem (by omega))
      have e0 := (kk.cell (p := ⟨b, off + k * 5, none⟩) hbl2 (by simp)).trans p0
      have e1 := (kk.cell (p := ⟨b, off + k * 5 + 1, none⟩) hbl2 (by simp)).trans p1
      have e2 := (kk.cell (p := ⟨b, off + k * 5 + 2, none⟩) hbl2 (by simp)).trans p2
      have e3 := (kk.cell (p := ⟨b, off + k * 5 + 3, none⟩) hbl2 (by simp)).trans p3
      have e4 := (kk.cell (p := ⟨b, off + k * 5 + 4, none⟩) hbl2 (by simp)).trans p4
      have hid : I64 (os[k]'(by omega)).id := (HO.out _ (List.getElem_mem (by omega))).iid
      have hcol : ∃ cc, Mk.colOf m1.nodes (os[k]'(by omega)).id = some cc := by
        have h1 := HSM1.out.isSome (os[k]'(by omega)).id
        have h2 : (Mk.colOf (mk0 os).nodes (os[k]'(by omega)).id).isSome = true := by
          unfold Mk.colOf mk0
          rw [Option.isSome_map, List.find?_isSome]
          exact ⟨ndOf (os[k]'(by omega)), List.mem_map_of_mem (List.getElem_mem _), by simp [ndOf]⟩
        rw [h2] at h1
        exact Option.isSome_iff_exists.1 h1
      have HSN := Lib.hid (bl_snoc m1 os k (by omega))
      have hbl3 := bl_len m1 os k
      generalize os[k]'(by omega) = o at *
      obtain ⟨oid, osz, owk, orA, orc, orefs, oeA, oec, oents⟩ := o
      simp only at e0 e1 e2 e3 e4 hid hcol
      subst hA
      obtain ⟨cc, hcc⟩ := hcol
      obtain ⟨i, x, hx, hxi, hxc⟩ := find_index hcc
      obtain ⟨nbs, mb1, qA1, qc1, hl, o0, o1, o2, hb, hq, hm, hn2, hlt2⟩ := hM3
      have hi : i < nbs.length := by rw [hl]; exact (List.getElem?_eq_some_iff.1 hx).1
      obtain ⟨nb, hnb⟩ : ∃ nb, nbs[i]? = some nb := ⟨_, List.getElem?_eq_getElem hi⟩
      have hmem := zip_mem hx hnb
      rw [hxi] at hmem
      obtain ⟨A1, c1, A2, c2, hbn, _⟩ := hn2 i x nb hx hnb
      obtain ⟨V, hV⟩ : ∃ V, V = wr.alloc (.cells #[.int .i64 oid, .int .i64 osz, .int .i64 owk, .slice orA orefs.length orc, .slice oeA oents.length oec] 39) := ⟨_, rfl⟩
      obtain ⟨bx, hbx⟩ : ∃ bx, bx = wr.heap.size := ⟨_, rfl⟩
      have kV : Kept (fun _ => False) wr V := by rw [hV]; exact (Kept.refl _ wr).alloc _
      have hBV : Blk V bx 39 #[.int .i64 oid, .int .i64 osz, .int .i64 owk, .slice orA orefs.length orc, .slice oeA oents.length oec] := by rw [hV, hbx]; exact Blk.new wr 39 _
      have kVd : Kept (fun _ => False) wr V.drew := kV.drew
      have g0 : V.drew.cell? ⟨g, 0, none⟩ = some (.map (some mb1)) := (hb.kept kVd (by simp)).cell 0
      have g1 : V.drew.cell? ⟨bx, 0, none⟩ = some (.int .i64 oid) := hBV.cell 0
      have g2 : V.drew.cell? ⟨nb, 2, none⟩ = some (.int .i64 (cc : Int)) := by
        have := (hbn.kept kVd (by simp)).cell 2
        rw [← hxc]
        exact this
      have g3 := ((hm.kept kVd (by simp)).look_some (zip_apart HG1.out.asc nbs) hmem hid).2
      have hMd : MMem V.drew ow3 g m1 := MMem.kept ⟨nbs, mb1, qA1, qc1, hl, o0, o1, o2, hb, hq, hm, hn2, hlt2⟩ kVd (by simp)
      have rowd : Row V.drew A (bl m1 os k).length c (bl m1 os k) := row.kept kVd (by simp)
      have KVD : Hid (Kept (fun _ => False) w V.drew) := kk.trans kVd (fun _ _ h => h)
      have HMD := Lib.hid hMd
      have ROWD := Lib.hid rowd
      have FR := Lib.hid fr
      have OWN3 := Lib.hid own3
      have b0 : (0 : Int) ≤ (k : Int) := by omega
      have b1 : (k : Int) < (on : Int) := by omega
      have hbw : b < wr.heap.size := Nat.lt_of_lt_of_le hbl2 kk.size
      have HV := Lib.hid hV
      have HBXX := Lib.hid hbx
      have HCC := Lib.hid hcc
      clear kk hcells p0 p1 p2 p3 p4 row fr hMd rowd own3 hl o0 o1 o2 hb hq hm hn2 hlt2 hmem hbn kV kVd hBV hx hxi hxc hnb hV hbx hcc hi
      go_upto_region 9 with (fail)
      rw [← HV.out, ← HBXX.out]
      clear e0 e1 e2 e3 e4 HV HBXX
      have hkd : (bl m1 os k).length ≤ 100 := by omega
      by_cases h2 : cc = 2
      · have t2 : ((cc : Int) == 2) = true := by simp; omega
        go_region_held3 (fun w' => w'.cell? ⟨g, 0, none⟩ = some (.map (some mb1)) ∧ w'.cell? ⟨bx, 0, none⟩ = some (.int .i64 oid) ∧ w'.cell? ⟨nb, 2, none⟩ = some (.int .i64 (cc : Int)) ∧ (Instr.lookup 53 (.map (some mb1)) (.int .i64 oid) false).run Try.prog w' = .ok (.pointer (some ⟨nb, 0, none⟩)) w') (first | exact ⟨g0, g1, g2, g3⟩ | go_keep) (fail)
        have HSN2 : Hid (bl m1 os (k + 1) = bl m1 os k ++ [oid]) := by
          have := HSN.out
          simp only at this
          rw [HCC.out, h2, if_pos rfl] at this
          exact this
        generalize V.drew = U at *
        have hr : Row (U.alloc (.cells #[.int .i64 oid] 3)) A (bl m1 os k).length c (bl m1 os k) := ROWD.out.kept ((Kept.refl (fun _ => False) U).alloc _) (by simp)
        have hsr : Src (U.alloc (.cells #[.int .i64 oid] 3)) (some ⟨U.heap.size, 0, none⟩) 1 [oid] := (Row.new U [oid] (by show 1 ≤ maxLen; decide)).src
        have R := Lib.hid hr
        have SR := Lib.hid hsr
        have hb8 : ((bl m1 os k).length + 1) * 8 ≤ 140737488355328 := by omega
        have HB8 := Lib.hid hb8
        clear hr hsr hb8 g0 g2 g3 ROWD
        generalize hbb : bl m1 os k = pre at *
        go_wp2_with (at_builtin; refine wpList_append_Row _ rfl _ _ rfl A _ c pre rfl R.out (some ⟨U.heap.size, 0, none⟩) 1 1 [oid] rfl SR.out (by simp) HB8.out ?_)
        intro A' c' w4 r1 r2 r3
        have HNEW : Hid (RState w g m1 os (k + 1) (.slice A' (pre.length + 1) c') w4) := by
          have kg : Kept (fun k => rowBlk A = some k) U w4 := ((Kept.refl _ U).alloc _).grown r2 (fun k hk _ => hk)
          have e : (pre ++ [oid]).length = pre.length + 1 := by simp
          refine ⟨ow3, A', c', by rw [HSN2.out, e], by rw [HSN2.out, e]; exact r1, fun r hr => ?_, HMD.out.kept kg (fun j hj hA => (FR.out j hA).2 hj), OWN3.out, KVD.out.trans kg (fun i hi hA => by have := (FR.out i hA).1; omega)⟩
          rcases r3 with h | ⟨r', h, hr'⟩
          · rw [h] at hr; exact FR.out r hr
          · rw [h] at hr
            injection hr with hr
            subst hr
            have h1 := KVD.out.size
            try simp only [World.size_alloc] at hr'
            refine ⟨by omega, fun ho => ?_⟩
            have := HMD.out.lt _ ho
            omega
        clear r1 r2 r3 R SR FR KVD HMD OWN3 g1
        go_wp2
        go_roundw
        case rel => exact ⟨k + 1, by omega, by go_num, HNEW.out⟩
        case measure => simp [intOf]; omega
      · have t2 : ((cc : Int) == 2) = false := by simp; omega
        go_region_held3 (fun w' => w'.cell? ⟨g, 0, none⟩ = some (.map (some mb1)) ∧ w'.cell? ⟨bx, 0, none⟩ = some (.int .i64 oid) ∧ w'.cell? ⟨nb, 2, none⟩ = some (.int .i64 (cc : Int)) ∧ (Instr.lookup 53 (.map (some mb1)) (.int .i64 oid) false).run Try.prog w' = .ok (.pointer (some ⟨nb, 0, none⟩)) w') (first | exact ⟨g0, g1, g2, g3⟩ | go_keep) (fail)
        have HSN2 : Hid (bl m1 os (k + 1) = bl m1 os k) := by
          have := HSN.out
          simp only at this
          rw [HCC.out, if_neg (by simp [h2]), List.append_nil] at this
          exact this
        generalize V.drew = U at *
        have HNEW : Hid (RState w g m1 os (k + 1) (.slice A (bl m1 os k).length c) U) := by
          refine ⟨ow3, A, c, by rw [HSN2.out], by rw [HSN2.out]; exact ROWD.out, FR.out, HMD.out, OWN3.out, KVD.out⟩
        clear FR KVD HMD OWN3 g0 g1 g2 g3 ROWD
        go_wp2
        go_roundw
        case rel => exact ⟨k + 1, by omega, by go_num, HNEW.out⟩
        case measure => simp [intOf]; omega
    · obtain rfl : k = on := by omega
      have HN : Hid (W.Late w (bl m1 os k) (.slice A (bl m1 os k).length c) wr) := ⟨A, c, rfl, row, fun r hr => (fr r hr).1, kk⟩
      clear row fr hM3 own3 kk hlt
      go_wp2
      go_ret2
      exact ⟨_, rfl, HN.out⟩
end Go.Proofs.Ytalhldfcdfdoeaa
