/- What is proved here: the walk of MarkClosed: it returns true and changes nothing that was there. Condition: the argument lies in memory as a graph. -/
import Derived.Test.YtalhldfcdfdoeaaSteps
import Derived.Test.YtalhldfcdfdoeaaLaw
import Derived.Test.YtalhldfcdfdoeaaFind
import Derived.Test.YtalhldfcdfdoeaaRefs
import Derived.Test.YtalhldfcdfdoeaaAfter
namespace Go.Proofs.Ytalhldfcdfdoeaa
open Go.RowKit

theorem FindIs.at_ {os : List Ob} (ha : os.Pairwise fun a b => a.id < b.id) {i : Nat} {o : Ob} (hi : os[i]? = some o) {r : Int} (h : FindIs os o.id r) : r = (i : Int) := by
  rcases h with ⟨j, p, hj, e, rfl⟩ | ⟨h, _⟩
  · have : i = j := by
      obtain ⟨h1, rfl⟩ := List.getElem?_eq_some_iff.1 hi
      obtain ⟨h2, rfl⟩ := List.getElem?_eq_some_iff.1 hj
      rcases Nat.lt_trichotomy i j with h | h | h
      · have := List.pairwise_iff_getElem.1 ha i j h1 h2 h; omega
      · exact h
      · have := List.pairwise_iff_getElem.1 ha j i h2 h1 h; omega
    rw [this]
  · exact absurd rfl (h o (List.mem_of_getElem? hi))
theorem FindIs.none_ {os : List Ob} {id r : Int} (h : FindIs os id r) (hn : ∀ o, o ∈ os → o.id ≠ id) : r = -1 := by
  rcases h with ⟨j, p, hj, e, rfl⟩ | ⟨_, h⟩
  · exact absurd e (hn p (List.mem_of_getElem? hj))
  · exact h

set_option maxHeartbeats 16000000 in
theorem closed_walk (w : World) (oA rA : Option Addr) (on oc rn rc : Nat) (os : List Ob) (rs : List Int) (h : Gr w oA rA on oc rn rc os rs) :
    Calls Try.prog 5 #[.agg #[.slice oA on oc, .slice rA rn rc]] w fun e w' => e = .returned (.bool true) ∧ Kept (fun _ => False) w w' := by
  have HL := Lib.hid (large_any oA rA on oc rn rc os (w.alloc (.cells #[.slice oA on oc, .slice rA rn rc] 25)) (h.objs.later ((Kept.refl _ w).alloc _)))
  have H := Lib.hid h
  clear h
  go_enter Try.func5, Try.ntmps5
  go_wp2_with fail
  refine HL.out.mono ?_
  rintro e w1 ⟨b, rfl, hsm, k1⟩
  have hbx : Blk w1 w.heap.size 25 #[.slice oA on oc, .slice rA rn rc] := (Blk.new w 25 _).kept k1 (by simp)
  have K1 : Hid (Kept (fun _ => False) w w1) := ((Kept.refl _ w).alloc _).trans k1 (fun _ _ h => h)
  have HLV := Lib.hid lives_any
  clear k1 HL
  cases b with
  | true =>
    go_wp2_with fail
    refine (HLV.out _).mono ?_
    rintro e w2 ⟨rfl, k2⟩
    have K2 : Hid (Kept (fun _ => False) w w2) := K1.out.trans k2 (fun _ _ h => h)
    clear k2
    go_wp2
    go_ret
    exact ⟨rfl, K2.out⟩
  | false =>
    obtain ⟨q1, q2, q3⟩ := hsm rfl
    have c0 := hbx.cell 0
    have c1 := hbx.cell 1
    have HBX := Lib.hid hbx
    have H1 := Lib.hid (H.out.later K1.out)
    have HQ := Lib.hid q3
    clear hsm q3 hbx
    by_cases hck : chk 0 os = true
    · have hok : ∀ o, o ∈ os → ObOk w1 o := fun o ho => (H1.out.pre o ho).ok (HQ.out o ho)
      have hlen := H1.out.objs.len
      have HR := Lib.hid (reach_ok oA rA on oc rn rc os rs w1 H1.out.objs hok H1.out.roots H1.out.ints (by omega) (by omega) hck)
      have HOK := Lib.hid hok
      have HASC := Lib.hid (chk_asc 0 os hck).2
      clear hok
      go_wp2_with fail
      refine HR.out.mono ?_
      rintro e w2 ⟨v, rfl, A3, c3, rfl, r3, f3, k2⟩
      have hE : (mkNew os rs).steps on = mkEnd os rs := by rw [← hlen]; rfl
      rw [hE, ← hlen] at r3
      have hLl : (bl (mkEnd os rs) os os.length).length ≤ 60 := by have := bl_len (mkEnd os rs) os os.length; omega
      rw [hE]
      have e9 : bl (mkEnd os rs) os on = bl (mkEnd os rs) os os.length := by rw [hlen]
      rw [e9]
      have HMEM := Lib.hid (fun x => mem_bl (os := os) (m := mkEnd os rs) (Nat.le_refl _) (x := x))
      have HLA := Lib.hid (bl_asc hck (mkEnd os rs) os.length)
      have HROOT := Lib.hid (fun r hr o ho e => end_root (rs := rs) hck (r := r) hr (o := o) ho e)
      have HREF := Lib.hid (fun x r hx p hp ep hr o ho e => end_ref (rs := rs) hck (x := x) (r := r) hx (p := p) hp ep hr (o := o) ho e)
      generalize bl (mkEnd os rs) os os.length = L at *
      have K2 := Lib.hid k2
      have R3 := Lib.hid r3
      have hbx2 := HBX.out.kept k2 (by simp)
      have HBX2 := Lib.hid hbx2
      have hb2 : w.heap.size < w2.heap.size := hbx2.lt
      have HGR2 := Lib.hid (H1.out.later k2)
      have HOK2 : Hid (∀ o, o ∈ os → ObOk w2 o) := fun o ho => (HOK.out o ho).later k2
      clear r3 f3 k2 HR hE e9 c0 c1 hbx2 HOK
      go_wp2
      go_loopw [5] (fun i wr => ∃ k : Nat, k ≤ L.length ∧ i = .int .i64 (k : Int) ∧ Kept (fun _ => False) w2 wr) (fun i _ => L.length - (intOf i).toNat)
      case atStart => exact ⟨0, Nat.zero_le _, rfl, Kept.refl _ _⟩
      case round =>
        obtain ⟨k, hk, rfl, kk⟩ := hrel
        have hbx3 := HBX2.out.kept kk (by simp)
        have d0 := hbx3.cell 0
        have d1 := hbx3.cell 1
        by_cases hlt : k < L.length
        · obtain ⟨lb, lo, x, hA, hlb, hx, e0'⟩ := R3.out.src.at_ hlt
          have e0 := (kk.cell (p := ⟨lb, lo + k, none⟩) hlb (by simp)).trans e0'
          obtain ⟨o, ho, hox, _⟩ := (HMEM.out x).1 (List.mem_of_getElem? hx)
          obtain ⟨oi, hoi⟩ := List.getElem?_of_mem ho
          have hb3 : w.heap.size < wr.heap.size := Nat.lt_of_lt_of_le hb2 kk.size
          have hl3 : lb < wr.heap.size := Nat.lt_of_lt_of_le hlb kk.size
          have HFD : Hid (∀ t : After wr, Calls Try.prog 17 #[.agg #[.slice oA on oc, .slice rA rn rc], .int .i64 x] t.1 fun e w'' => e = .returned (.int .i64 (oi : Int)) ∧ ∃ t' : After wr, w'' = t'.1) := by
            intro t
            refine (find_any oA rA on oc rn rc os x t.1 ((HGR2.out.objs.later kk).later t.kept) (by omega) HASC.out).mono ?_
            rintro e w3 ⟨r, rfl, hr, k3⟩
            obtain rfl := FindIs.at_ HASC.out hoi (by rw [hox]; exact hr)
            exact ⟨rfl, t.next k3, rfl⟩
          have u0 : ∀ t : After wr, t.1.cell? ⟨w.heap.size, 0, none⟩ = some (.slice oA on oc) := fun t => (t.kept.cell (p := ⟨w.heap.size, 0, none⟩) hb3 (by simp)).trans d0
          have u1 : ∀ t : After wr, t.1.cell? ⟨w.heap.size, 1, none⟩ = some (.slice rA rn rc) := fun t => (t.kept.cell (p := ⟨w.heap.size, 1, none⟩) hb3 (by simp)).trans d1
          have u2 : ∀ t : After wr, t.1.cell? ⟨lb, lo + k, none⟩ = some (.int .i64 x) := fun t => (t.kept.cell (p := ⟨lb, lo + k, none⟩) hl3 (by simp)).trans e0
          subst hA
          have b0 : (0 : Int) ≤ (k : Int) := by omega
          have b1 : (k : Int) < (L.length : Int) := by omega
          have t1 : decide ((oi : Int) < 0) = false := by simp
          rcases Nat.eq_zero_or_pos k with h0 | h0
          · subst h0
            have KK := Lib.hid kk
            simp only [Nat.add_zero] at e0 u2
            clear hoi hox ho hx kk e0' hbx3
            go_wp2_with fail
            refine wp_region_after (by kernel_rfl) (by kernel_rfl) ?_
            repeat (go_big_quiet_step ((go_at_call 17; exact HFD.out _)))
            refine wpQuiet_nil ?_
            intro _ hw'
            obtain ⟨ta, hta⟩ := hw'
            subst hta
            have K4 : Hid (Kept (fun _ => False) w2 ta.1) := KK.out.trans ta.kept (fun _ _ h => h)
            clear HFD e0 d0 d1 KK u0 u1 u2
            go_wp2
            go_roundw
            case rel => exact ⟨1, by omega, by go_num, K4.out⟩
            case measure => simp [intOf]; omega
          · obtain ⟨lb', lo', y, hA', _, hy, e1'⟩ := R3.out.src.at_ (j := k - 1) (by omega)
            injection hA' with hA'
            injection hA' with hA1 hA2
            subst hA1 hA2
            have e1 := (kk.cell (p := ⟨lb, lo + (k - 1), none⟩) hlb (by simp)).trans e1'
            have u3 : ∀ t : After wr, t.1.cell? ⟨lb, lo + (k - 1), none⟩ = some (.int .i64 y) := fun t => (t.kept.cell (p := ⟨lb, lo + (k - 1), none⟩) hl3 (by simp)).trans e1
            have hyx : y < x := by
              obtain ⟨g1, rfl⟩ := List.getElem?_eq_some_iff.1 hx
              obtain ⟨g2, rfl⟩ := List.getElem?_eq_some_iff.1 hy
              exact List.pairwise_iff_getElem.1 HLA.out (k - 1) k g2 g1 (by omega)
            have t2 : decide (0 < k) = true := by simp [h0]
            have t3 : decide (x ≤ y) = false := by simp; omega
            have b2 : IntKind.i64.wrap ((k : Int) - 1) = (k : Int) - 1 := IntWalk.i64_in _ (by omega)
            have b3 : (0 : Int) ≤ (k : Int) - 1 := by omega
            have b4 : ((k : Int) - 1).toNat = k - 1 := by omega
            have b5 : (k : Int) - 1 < (L.length : Int) := by omega
            have KK := Lib.hid kk
            clear hoi hox ho hx hy kk e0' e1' hbx3 hyx
            go_wp2_with fail
            refine wp_region_after (by kernel_rfl) (by kernel_rfl) ?_
            repeat (go_big_quiet_step ((go_at_call 17; exact HFD.out _)))
            refine wpQuiet_nil ?_
            intro _ hw'
            obtain ⟨ta, hta⟩ := hw'
            subst hta
            have K4 : Hid (Kept (fun _ => False) w2 ta.1) := KK.out.trans ta.kept (fun _ _ h => h)
            clear HFD e0 e1 d0 d1 KK u0 u1 u2 u3
            go_wp2
            go_roundw
            case rel => exact ⟨k + 1, by omega, by go_num, K4.out⟩
            case measure => simp [intOf]; omega
        · obtain rfl : k = L.length := by omega
          have hr0 : Row (wr.alloc (.cells #[] 3)) (some ⟨wr.heap.size, 0, none⟩) 0 0 [] := Row.new wr [] (Nat.zero_le _)
          have hs0 : Src (wr.alloc (.cells #[] 3)) rA rn rs := (HGR2.out.roots.kept kk (fun _ _ h => h)).kept ((Kept.refl (fun _ => False) wr).alloc _) (by simp)
          have R0 := Lib.hid hr0
          have S0 := Lib.hid hs0
          have HNR : Hid (rA = none → rn = 0) := fun e => by
            rcases Nat.eq_zero_or_pos rn with h | h
            · exact h
            · obtain ⟨_, _, e2, _⟩ := HGR2.out.roots.2 h
              rw [e] at e2
              cases e2
          have hb8 : (0 + rn) * 8 ≤ 140737488355328 := by omega
          have KK := Lib.hid kk
          have hb3 : w.heap.size < wr.heap.size := Nat.lt_of_lt_of_le hb2 kk.size
          clear hr0 hs0 kk hbx3 hlt hk d0
          go_wp2_with (at_builtin; refine wpList_append_Row _ rfl _ _ rfl (some ⟨wr.heap.size, 0, none⟩) 0 0 [] rfl R0.out rA rn rc rs rfl S0.out HNR.out hb8 ?_)
          intro A5 c5 w5 r5 g5 a5
          have R5 : Hid (∃ A c, (.slice A5 (0 + rn) c5 : Value) = .slice A (rs ++ (L.take 0).flatMap (Mk.allOf (mkEnd os rs).nodes)).length c ∧ Row w5 A (rs ++ (L.take 0).flatMap (Mk.allOf (mkEnd os rs).nodes)).length c (rs ++ (L.take 0).flatMap (Mk.allOf (mkEnd os rs).nodes)) ∧ (∀ r, rowBlk A = some r → w2.heap.size ≤ r) ∧ Kept (fun _ => False) w2 w5) := by
            have e : rs ++ (L.take 0).flatMap (Mk.allOf (mkEnd os rs).nodes) = rs := by simp
            have hk5 := KK.out.size
            refine ⟨A5, c5, by rw [e, HGR2.out.roots.1, Nat.zero_add], ?_, fun r hr => ?_, (KK.out.alloc _).grown g5 (fun k hk hlt => by simp [rowBlk] at hk; omega)⟩
            · rw [e, HGR2.out.roots.1]
              simpa using r5
            · rcases a5 with h | ⟨r', h, hr'⟩
              · rw [h] at hr; simp [rowBlk] at hr; omega
              · rw [h] at hr; injection hr with hr; omega
          clear r5 g5 a5 R0 S0 HNR KK d1
          obtain ⟨wo, rfl⟩ : ∃ wo : World, wo = wr := ⟨_, rfl⟩
          go_wp2
          go_loopw [6, 7] (fun v i wr => ∃ k : Nat, k ≤ L.length ∧ i = .int .i64 (k : Int) ∧ ∃ A c, v = .slice A (rs ++ (L.take k).flatMap (Mk.allOf (mkEnd os rs).nodes)).length c ∧ Row wr A (rs ++ (L.take k).flatMap (Mk.allOf (mkEnd os rs).nodes)).length c (rs ++ (L.take k).flatMap (Mk.allOf (mkEnd os rs).nodes)) ∧ (∀ r, rowBlk A = some r → w2.heap.size ≤ r) ∧ Kept (fun _ => False) w2 wr) (fun _ i _ => L.length - (intOf i).toNat)
          case atStart =>
            obtain ⟨A, c, e, h⟩ := R5.out
            exact ⟨0, Nat.zero_le _, rfl, A, c, by simpa using e, h⟩
          case round =>
            obtain ⟨k, hk, rfl, A, c, rfl, row, fr, kk⟩ := hrel
            by_cases hlt : k < L.length
            · obtain ⟨lb, lo, x, hA, hlb, hx, e0'⟩ := R3.out.src.at_ hlt
              obtain ⟨o, ho, hox, _⟩ := (HMEM.out x).1 (List.mem_of_getElem? hx)
              have hall := end_all (rs := rs) hck ho
              rw [hox] at hall
              obtain ⟨oi, hoi⟩ := List.getElem?_of_mem ho
              have hoil : oi < on := by rw [← hlen]; exact (List.getElem?_eq_some_iff.1 hoi).1
              have hokr : ObOk wr o := (HOK2.out o ho).later kk
              obtain ⟨ob, oo, hOA, hob, hcells⟩ := HGR2.out.objs.at_ (by omega)
              obtain ⟨p0, p1, p2, p3, p4⟩ := hcells oi o hoi
              obtain ⟨oid, osz, owk, orA, orc, orefs, oeA, oec, oents⟩ := o
              simp only at p0 p1 p2 p3 p4 hox hall
              have hLk : L.take (k + 1) = L.take k ++ [x] := by
                obtain ⟨hjl, he⟩ := List.getElem?_eq_some_iff.1 hx
                rw [List.take_succ_eq_append_getElem hjl, he]
              have HT2 : Hid (rs ++ (L.take (k + 1)).flatMap (Mk.allOf (mkEnd os rs).nodes) = (rs ++ (L.take k).flatMap (Mk.allOf (mkEnd os rs).nodes)) ++ (orefs ++ W.flatKV oents)) := by
                show _ = _
                rw [hLk, List.flatMap_append, ← List.append_assoc]
                simp [hall]
              have hpl : (rs ++ (L.take k).flatMap (Mk.allOf (mkEnd os rs).nodes)).length ≤ 100 + k * 120 := by
                rw [List.length_append, HGR2.out.roots.1]
                have key : ∀ l : List Int, (∀ z, z ∈ l → z ∈ L) → (l.flatMap (Mk.allOf (mkEnd os rs).nodes)).length ≤ l.length * 120 := by
                  intro l
                  induction l with
                  | nil => intro _; simp
                  | cons z l ih =>
                    intro hz
                    obtain ⟨oz, hoz, e, _⟩ := (HMEM.out z).1 (hz z (by simp))
                    have h1 := ih (fun y hy => hz y (by simp [hy]))
                    have h2 := end_all (rs := rs) hck hoz
                    rw [e] at h2
                    have h3 := HQ.out oz hoz
                    rw [List.flatMap_cons, List.length_append, h2, List.length_append, W.flatKV_length, List.length_cons]
                    omega
                have := key (L.take k) (fun z hz => List.mem_of_mem_take hz)
                rw [List.length_take] at this
                have : min k L.length = k := by omega
                simp only [this] at *
                omega
              generalize rs ++ (L.take k).flatMap (Mk.allOf (mkEnd os rs).nodes) = pre at *
              subst hA hOA
              have hbx3 := HBX2.out.kept kk (by simp)
              have hb3 : w.heap.size < wr.heap.size := Nat.lt_of_lt_of_le hb2 kk.size
              have hl3 : lb < wr.heap.size := Nat.lt_of_lt_of_le hlb kk.size
              have ho3 : ob < wr.heap.size := Nat.lt_of_lt_of_le hob kk.size
              have HST : Hid (∀ w', Kept (fun _ => False) wr w' → w'.cell? ⟨w.heap.size, 0, none⟩ = some (.slice (some ⟨ob, oo, none⟩) on oc) ∧ w'.cell? ⟨w.heap.size, 1, none⟩ = some (.slice rA rn rc) ∧ w'.cell? ⟨lb, lo + k, none⟩ = some (.int .i64 x) ∧ w'.cell? ⟨ob, oo + oi * 5, none⟩ = some (.int .i64 oid) ∧ w'.cell? ⟨ob, oo + oi * 5 + 1, none⟩ = some (.int .i64 osz) ∧ w'.cell? ⟨ob, oo + oi * 5 + 2, none⟩ = some (.int .i64 owk) ∧ w'.cell? ⟨ob, oo + oi * 5 + 3, none⟩ = some (.slice orA orefs.length orc) ∧ w'.cell? ⟨ob, oo + oi * 5 + 4, none⟩ = some (.slice oeA oents.length oec)) := by
                intro w' k'
                have kb := kk.trans k' (fun _ _ h => h)
                exact ⟨(hbx3.kept k' (by simp)).cell 0, (hbx3.kept k' (by simp)).cell 1, (kb.cell (p := ⟨lb, lo + k, none⟩) hlb (by simp)).trans e0', (kb.cell (p := ⟨ob, oo + oi * 5, none⟩) hob (by simp)).trans p0, (kb.cell (p := ⟨ob, oo + oi * 5 + 1, none⟩) hob (by simp)).trans p1, (kb.cell (p := ⟨ob, oo + oi * 5 + 2, none⟩) hob (by simp)).trans p2, (kb.cell (p := ⟨ob, oo + oi * 5 + 3, none⟩) hob (by simp)).trans p3, (kb.cell (p := ⟨ob, oo + oi * 5 + 4, none⟩) hob (by simp)).trans p4⟩
              have HFD : Hid (Calls Try.prog 17 #[.agg #[.slice (some ⟨ob, oo, none⟩) on oc, .slice rA rn rc], .int .i64 x] wr.drew fun e w'' => e = .returned (.int .i64 (oi : Int)) ∧ Kept (fun _ => False) wr w'') := by
                refine (find_any (some ⟨ob, oo, none⟩) rA on oc rn rc os x wr.drew ((HGR2.out.objs.later kk).later ((Kept.refl _ wr).drew)) (by omega) HASC.out).mono ?_
                rintro e w3 ⟨r, rfl, hr, k3⟩
                obtain rfl := FindIs.at_ HASC.out hoi (by simp only; rw [hox]; exact hr)
                exact ⟨rfl, ((Kept.refl _ wr).drew).trans k3 (fun _ _ h => h)⟩
              have HRF : Hid (∀ w', Kept (fun _ => False) wr w' → Calls Try.prog 18 #[.agg #[.int .i64 oid, .int .i64 osz, .int .i64 owk, .slice orA orefs.length orc, .slice oeA oents.length oec]] w' fun e w'' => ∃ v, e = .returned v ∧ W.Late w' (orefs ++ W.flatKV oents) v w'') := fun w' k' => refs_any ⟨oid, osz, owk, orA, orc, orefs, oeA, oec, oents⟩ w' (hokr.later k')
              have hfewr := hokr.few
              simp only at hfewr
              have hrl : (orefs ++ W.flatKV oents).length ≤ 120 := by rw [List.length_append, W.flatKV_length]; omega
              have b0 : (0 : Int) ≤ (k : Int) := by omega
              have b1 : (k : Int) < (L.length : Int) := by omega
              have b2 : (0 : Int) ≤ (oi : Int) := by omega
              have b3 : (oi : Int) < (on : Int) := by omega
              have hcc0 := HST.out wr.drew ((Kept.refl _ wr).drew)
              obtain ⟨d0, d1, d2, d3, d4, d5, d6, d7⟩ := HST.out wr (Kept.refl _ wr)
              have KK := Lib.hid kk
              have ROW := Lib.hid row
              have FR := Lib.hid fr
              have HPL := Lib.hid hpl
              have HRLL := Lib.hid hrl
              generalize orefs ++ W.flatKV oents = RL at *
              clear hoi hox ho hx kk row fr e0' hbx3 hcells p0 p1 p2 p3 p4 hokr hall hLk hpl hrl
              go_wp2_with fail
              go_region_held3 (fun w' => w'.cell? ⟨w.heap.size, 0, none⟩ = some (.slice (some ⟨ob, oo, none⟩) on oc) ∧ w'.cell? ⟨w.heap.size, 1, none⟩ = some (.slice rA rn rc) ∧ w'.cell? ⟨lb, lo + k, none⟩ = some (.int .i64 x) ∧ w'.cell? ⟨ob, oo + oi * 5, none⟩ = some (.int .i64 oid) ∧ w'.cell? ⟨ob, oo + oi * 5 + 1, none⟩ = some (.int .i64 osz) ∧ w'.cell? ⟨ob, oo + oi * 5 + 2, none⟩ = some (.int .i64 owk) ∧ w'.cell? ⟨ob, oo + oi * 5 + 3, none⟩ = some (.slice orA orefs.length orc) ∧ w'.cell? ⟨ob, oo + oi * 5 + 4, none⟩ = some (.slice oeA oents.length oec)) (first | exact hcc | exact hcd | exact hcc0 | go_keep)
                (first
                  | (go_at_call 17; refine HFD.out.mono ?_; rintro e w6 ⟨rfl, k6⟩; have hcc : w6.cell? ⟨w.heap.size, 0, none⟩ = some (.slice (some ⟨ob, oo, none⟩) on oc) ∧ w6.cell? ⟨w.heap.size, 1, none⟩ = some (.slice rA rn rc) ∧ w6.cell? ⟨lb, lo + k, none⟩ = some (.int .i64 x) ∧ w6.cell? ⟨ob, oo + oi * 5, none⟩ = some (.int .i64 oid) ∧ w6.cell? ⟨ob, oo + oi * 5 + 1, none⟩ = some (.int .i64 osz) ∧ w6.cell? ⟨ob, oo + oi * 5 + 2, none⟩ = some (.int .i64 owk) ∧ w6.cell? ⟨ob, oo + oi * 5 + 3, none⟩ = some (.slice orA orefs.length orc) ∧ w6.cell? ⟨ob, oo + oi * 5 + 4, none⟩ = some (.slice oeA oents.length oec) := HST.out w6 k6)
                  | (go_at_call 18; refine (HRF.out w6 k6).mono ?_; rintro e w7 ⟨v, rfl, A7, c7, rfl, r7, f7, k7⟩; have hcc : w7.cell? ⟨w.heap.size, 0, none⟩ = some (.slice (some ⟨ob, oo, none⟩) on oc) ∧ w7.cell? ⟨w.heap.size, 1, none⟩ = some (.slice rA rn rc) ∧ w7.cell? ⟨lb, lo + k, none⟩ = some (.int .i64 x) ∧ w7.cell? ⟨ob, oo + oi * 5, none⟩ = some (.int .i64 oid) ∧ w7.cell? ⟨ob, oo + oi * 5 + 1, none⟩ = some (.int .i64 osz) ∧ w7.cell? ⟨ob, oo + oi * 5 + 2, none⟩ = some (.int .i64 owk) ∧ w7.cell? ⟨ob, oo + oi * 5 + 3, none⟩ = some (.slice orA orefs.length orc) ∧ w7.cell? ⟨ob, oo + oi * 5 + 4, none⟩ = some (.slice oeA oents.length oec) := HST.out w7 (k6.trans k7 (fun _ _ h => h)); obtain ⟨A8, c8, w8, hrun, r8, g8, a8⟩ := run_append_Row w7 23 (c2 := c7) (ROW.out.kept (k6.trans k7 (fun _ _ h => h)) (by simp)) r7.src r7.none_len (by have := HPL.out; have := HRLL.out; omega);
                     have kg : Kept (fun k => rowBlk A = some k) wr w8 := ((k6.trans k7 (fun _ _ h => h)).mono (fun _ _ h => h.elim)).grown g8 (fun k hk _ => hk);
                     have hcd : w8.cell? ⟨w.heap.size, 0, none⟩ = some (.slice (some ⟨ob, oo, none⟩) on oc) ∧ w8.cell? ⟨w.heap.size, 1, none⟩ = some (.slice rA rn rc) ∧ w8.cell? ⟨lb, lo + k, none⟩ = some (.int .i64 x) ∧ w8.cell? ⟨ob, oo + oi * 5, none⟩ = some (.int .i64 oid) ∧ w8.cell? ⟨ob, oo + oi * 5 + 1, none⟩ = some (.int .i64 osz) ∧ w8.cell? ⟨ob, oo + oi * 5 + 2, none⟩ = some (.int .i64 owk) ∧ w8.cell? ⟨ob, oo + oi * 5 + 3, none⟩ = some (.slice orA orefs.length orc) ∧ w8.cell? ⟨ob, oo + oi * 5 + 4, none⟩ = some (.slice oeA oents.length oec) := (by
                       have f1 : rowBlk A ≠ some w.heap.size := fun e => by have := FR.out _ e; omega
                       have f2 : rowBlk A ≠ some lb := fun e => by have := FR.out _ e; omega
                       have f3 : rowBlk A ≠ some ob := fun e => by have := FR.out _ e; omega
                       exact ⟨(kg.cell (p := ⟨w.heap.size, 0, none⟩) hb3 f1).trans d0, (kg.cell (p := ⟨w.heap.size, 1, none⟩) hb3 f1).trans d1, (kg.cell (p := ⟨lb, lo + k, none⟩) hl3 f2).trans d2, (kg.cell (p := ⟨ob, oo + oi * 5, none⟩) ho3 f3).trans d3, (kg.cell (p := ⟨ob, oo + oi * 5 + 1, none⟩) ho3 f3).trans d4, (kg.cell (p := ⟨ob, oo + oi * 5 + 2, none⟩) ho3 f3).trans d5, (kg.cell (p := ⟨ob, oo + oi * 5 + 3, none⟩) ho3 f3).trans d6, (kg.cell (p := ⟨ob, oo + oi * 5 + 4, none⟩) ho3 f3).trans d7⟩))
                  | (refine step_append_eq (vs := .slice A pre.length c) (vx := .slice A7 RL.length c7) (v := .slice A8 (pre.length + RL.length) c8) (w' := w8) (by rfl) (.tmp 66) (.tmp 77) (by rfl) (by rfl) (by rfl) hrun ?_)
                  | fail)
              have HNEW : Hid (∃ A c, (.slice A8 (pre.length + RL.length) c8 : Value) = .slice A (pre ++ RL).length c ∧ Row w8 A (pre ++ RL).length c (pre ++ RL) ∧ (∀ r, rowBlk A = some r → w2.heap.size ≤ r) ∧ Kept (fun _ => False) w2 w8) := by
                have hk9 := KK.out.size
                have hk7 := (k6.trans k7 (fun _ _ h => h)).size
                refine ⟨A8, c8, by rw [List.length_append], by rw [List.length_append]; exact r8, fun r hr => ?_, KK.out.trans kg (fun i hi hA => by have := FR.out i hA; omega)⟩
                rcases a8 with h | ⟨r', h, hr'⟩
                · rw [h] at hr; exact FR.out r hr
                · rw [h] at hr; injection hr with hr; omega
              clear hcc hcd hcc0 kg hrun r8 g8 a8 r7 f7 k7 k6 d0 d1 d2 d3 d4 d5 d6 d7 HFD HRF HST ROW FR KK
              have HPL2 : Hid (pre.length + RL.length ≤ 100000) := by have h1 := HPL.out; have h2 := HRLL.out; show _ ≤ _; omega
              go_wp2
              go_roundw
              case rel =>
                obtain ⟨A9, c9, e9, h9⟩ := HNEW.out
                exact ⟨k + 1, by omega, by go_num, A9, c9, by rw [HT2.out]; exact e9, by rw [HT2.out]; exact h9⟩
              case measure => simp [intOf]; omega
            · obtain rfl : k = L.length := by omega
              rw [List.take_length] at row ⊢
              have HAL : Hid (∀ a, a ∈ rs ++ L.flatMap (Mk.allOf (mkEnd os rs).nodes) → a ∉ L → ∀ o, o ∈ os → o.id ≠ a) := by
                intro a ha hnl o ho e
                apply hnl
                rcases List.mem_append.1 ha with h | h
                · exact HROOT.out a h o ho e
                · obtain ⟨x, hx, hax⟩ := List.mem_flatMap.1 h
                  obtain ⟨p, hp, hpx, _⟩ := (HMEM.out x).1 hx
                  have := end_all (rs := rs) hck hp
                  rw [hpx] at this
                  rw [this] at hax
                  exact HREF.out x a hx p hp hpx hax o ho e
              have hALb : (rs ++ L.flatMap (Mk.allOf (mkEnd os rs).nodes)).length ≤ 100000 := by
                rw [List.length_append, HGR2.out.roots.1]
                have key : ∀ l : List Int, (∀ z, z ∈ l → z ∈ L) → (l.flatMap (Mk.allOf (mkEnd os rs).nodes)).length ≤ l.length * 120 := by
                  intro l
                  induction l with
                  | nil => intro _; simp
                  | cons z l ih =>
                    intro hz
                    obtain ⟨oz, hoz, e, _⟩ := (HMEM.out z).1 (hz z (by simp))
                    have h1 := ih (fun y hy => hz y (by simp [hy]))
                    have h2 := end_all (rs := rs) hck hoz
                    rw [e] at h2
                    have h3 := HQ.out oz hoz
                    rw [List.flatMap_cons, List.length_append, h2, List.length_append, W.flatKV_length, List.length_cons]
                    omega
                have := key L (fun z hz => hz)
                omega
              generalize rs ++ L.flatMap (Mk.allOf (mkEnd os rs).nodes) = AL at *
              obtain ⟨wE, rfl⟩ : ∃ wE : World, wE = wr := ⟨_, rfl⟩
              have ROW : Hid (Src wE A AL.length AL) := row.src
              have KE := Lib.hid kk
              clear row fr kk hlt hk
              go_wp2
              go_loopw [8] (fun i wr => ∃ k : Nat, k ≤ AL.length ∧ i = .int .i64 (k : Int) ∧ Kept (fun _ => False) wE wr) (fun i _ => AL.length - (intOf i).toNat)
              case atStart => exact ⟨0, Nat.zero_le _, rfl, Kept.refl _ _⟩
              case round =>
                obtain ⟨k, hk, rfl, kk⟩ := hrel
                by_cases hlt : k < AL.length
                · obtain ⟨ab, ao, a, hA, hab, ha, e0'⟩ := ROW.out.at_ hlt
                  have HMA := Lib.hid (HAL.out a (List.mem_of_getElem? ha))
                  have hab3 : ab < wr.heap.size := Nat.lt_of_lt_of_le hab kk.size
                  have e0 := (kk.cell (p := ⟨ab, ao + k, none⟩) hab (by simp)).trans e0'
                  subst hA
                  obtain ⟨wo3, rfl⟩ : ∃ wo3 : World, wo3 = wr := ⟨_, rfl⟩
                  have b0 : (0 : Int) ≤ (k : Int) := by omega
                  have b1 : (k : Int) < (AL.length : Int) := by omega
                  have KK := Lib.hid kk
                  clear kk e0' ha
                  go_wp2
                  go_loopw [9, 10] (fun b i wz => ∃ j : Nat, j ≤ L.length ∧ i = .int .i64 (j : Int) ∧ (b = .bool true ∧ a ∈ L.take j ∨ b = .bool false ∧ a ∉ L.take j) ∧ Kept (fun _ => False) wo3 wz) (fun _ i _ => L.length - (intOf i).toNat)
                  case atStart => exact ⟨0, Nat.zero_le _, rfl, .inr ⟨rfl, by simp⟩, Kept.refl _ _⟩
                  case round =>
                    obtain ⟨j, hj, rfl, hb, kj⟩ := hrel
                    by_cases hjl : j < L.length
                    · obtain ⟨lb, lo, y, hA, hlb, hy, f0'⟩ := R3.out.src.at_ hjl
                      have hLj : L.take (j + 1) = L.take j ++ [y] := by
                        obtain ⟨hjl, he⟩ := List.getElem?_eq_some_iff.1 hy
                        rw [List.take_succ_eq_append_getElem hjl, he]
                      have kall : Kept (fun _ => False) w2 wr := (KE.out.trans KK.out (fun _ _ h => h)).trans kj (fun _ _ h => h)
                      have f0 := (kall.cell (p := ⟨lb, lo + j, none⟩) hlb (by simp)).trans f0'
                      have g0 := (kj.cell (p := ⟨ab, ao + k, none⟩) hab3 (by simp)).trans e0
                      subst hA
                      have c0 : (0 : Int) ≤ (j : Int) := by omega
                      have c1 : (j : Int) < (L.length : Int) := by omega
                      have KJ := Lib.hid kj
                      rcases hb with ⟨rfl, hb⟩ | ⟨rfl, hb⟩
                      · have HN : Hid (a ∈ L.take (j + 1)) := by
                          show a ∈ _
                          rw [hLj]
                          exact List.mem_append_left _ hb
                        clear hb hLj kall f0' hy kj
                        go_wp2_with fail
                        go_quiet (fail)
                        go_wp2
                        go_roundw
                        case rel => exact ⟨j + 1, by omega, by go_num, .inl ⟨rfl, HN.out⟩, KJ.out.drewN _⟩
                        case measure => simp [intOf]; omega
                      · by_cases hya : y = a
                        · have t1 : (y == a) = true := by simp [hya]
                          have HN : Hid (a ∈ L.take (j + 1)) := by
                            show a ∈ _
                            rw [hLj, hya]
                            simp
                          clear hb hLj kall f0' hy kj
                          go_wp2_with fail
                          go_quiet (fail)
                          go_wp2
                          go_roundw
                          case rel => exact ⟨j + 1, by omega, by go_num, .inl ⟨rfl, HN.out⟩, KJ.out.drewN _⟩
                          case measure => simp [intOf]; omega
                        · have t1 : (y == a) = false := by simp [hya]
                          have HN : Hid (a ∉ L.take (j + 1)) := by
                            show ¬ _
                            rw [hLj, List.mem_append]
                            rintro (h | h)
                            · exact hb h
                            · simp at h; exact hya h.symm
                          clear hb hLj kall f0' hy kj
                          go_wp2_with fail
                          go_quiet (fail)
                          go_wp2
                          go_roundw
                          case rel => exact ⟨j + 1, by omega, by go_num, .inr ⟨rfl, HN.out⟩, KJ.out.drewN _⟩
                          case measure => simp [intOf]; omega
                    · obtain rfl : j = L.length := by omega
                      rw [List.take_length] at hb
                      have kall : Kept (fun _ => False) w2 wr := (KE.out.trans KK.out (fun _ _ h => h)).trans kj (fun _ _ h => h)
                      have hb3 : w.heap.size < wr.heap.size := Nat.lt_of_lt_of_le hb2 kall.size
                      have hab4 : ab < wr.heap.size := Nat.lt_of_lt_of_le hab3 kj.size
                      have hbx3 := HBX2.out.kept kall (by simp)
                      have d0 := hbx3.cell 0
                      have d1 := hbx3.cell 1
                      have g0 := (kj.cell (p := ⟨ab, ao + k, none⟩) hab3 (by simp)).trans e0
                      have KJ : Hid (Kept (fun _ => False) wE wr) := KK.out.trans kj (fun _ _ h => h)
                      rcases hb with ⟨rfl, hb⟩ | ⟨rfl, hb⟩
                      · clear hb kall kj hbx3
                        go_wp2_with fail
                        go_quiet (fail)
                        go_wp2
                        go_roundw
                        case rel => exact ⟨k + 1, by omega, by go_num, KJ.out.drewN _⟩
                        case measure => simp [intOf]; omega
                      · have HFD : Hid (∀ t : After wr, Calls Try.prog 17 #[.agg #[.slice oA on oc, .slice rA rn rc], .int .i64 a] t.1 fun e w'' => e = .returned (.int .i64 (-1)) ∧ ∃ t' : After wr, w'' = t'.1) := by
                          intro t
                          refine (find_any oA rA on oc rn rc os a t.1 ((HGR2.out.objs.later kall).later t.kept) (by omega) HASC.out).mono ?_
                          rintro e w3 ⟨r, rfl, hr, k3⟩
                          obtain rfl := hr.none_ (HMA.out hb)
                          exact ⟨rfl, t.next k3, rfl⟩
                        have u0 : ∀ t : After wr, t.1.cell? ⟨w.heap.size, 0, none⟩ = some (.slice oA on oc) := fun t => (t.kept.cell (p := ⟨w.heap.size, 0, none⟩) hb3 (by simp)).trans d0
                        have u1 : ∀ t : After wr, t.1.cell? ⟨w.heap.size, 1, none⟩ = some (.slice rA rn rc) := fun t => (t.kept.cell (p := ⟨w.heap.size, 1, none⟩) hb3 (by simp)).trans d1
                        have u2 : ∀ t : After wr, t.1.cell? ⟨ab, ao + k, none⟩ = some (.int .i64 a) := fun t => (t.kept.cell (p := ⟨ab, ao + k, none⟩) hab4 (by simp)).trans g0
                        clear hb kall kj hbx3
                        go_wp2_with fail
                        refine wp_region_after (by kernel_rfl) (by kernel_rfl) ?_
                        repeat (go_big_quiet_step ((go_at_call 17; exact HFD.out _)))
                        refine wpQuiet_nil ?_
                        intro _ hw'
                        obtain ⟨ta, hta⟩ := hw'
                        subst hta
                        have K4 : Hid (Kept (fun _ => False) wE ta.1) := KJ.out.trans ta.kept (fun _ _ h => h)
                        clear u0 u1 u2 HFD
                        go_wp2
                        go_roundw
                        case rel => exact ⟨k + 1, by omega, by go_num, K4.out⟩
                        case measure => simp [intOf]; omega
                · have KF : Hid (Kept (fun _ => False) w wr) := ((K1.out.trans K2.out (fun _ _ h => h)).trans KE.out (fun _ _ h => h)).trans kk (fun _ _ h => h)
                  clear kk
                  go_wp2_with fail
                  refine (HLV.out _).mono ?_
                  rintro e w9 ⟨rfl, k9⟩
                  have K9 : Hid (Kept (fun _ => False) w w9) := KF.out.trans k9 (fun _ _ h => h)
                  clear k9
                  go_wp2
                  go_ret
                  exact ⟨rfl, K9.out⟩
    · obtain hck : chk 0 os = false := by simpa using hck
      have HR := Lib.hid (reach_bad oA rA on oc rn rc os w1 H1.out.objs (by omega) hck)
      go_wp2_with fail
      refine HR.out.mono ?_
      rintro e w2 ⟨rfl, k2⟩
      have K2 : Hid (Kept (fun _ => False) w w2) := K1.out.trans k2 (fun _ _ h => h)
      clear k2 HR
      go_wp2_with fail
      refine (HLV.out _).mono ?_
      rintro e w3 ⟨rfl, k3⟩
      have K3 : Hid (Kept (fun _ => False) w w3) := K2.out.trans k3 (fun _ _ h => h)
      clear k3
      go_wp2
      go_ret
      exact ⟨rfl, K3.out⟩
end Go.Proofs.Ytalhldfcdfdoeaa
