/- What is proved here: the contract of the reference marker's 'reach' over the plain marker. Condition: the marker lies in memory. -/
import Derived.Test.YtalhldfcdfdoeaaRMem
namespace Go.Proofs.Ytalhldfcdfdoeaa
open Go.RowKit

set_option maxHeartbeats 4000000 in
theorem r_reach {w : World} {ow : Nat → Option Nat} {g : Nat} {os : List Ob} {m : Mk} (ha : os.Pairwise fun a b => a.id < b.id) (hon : os.length ≤ 1000) (hs : Mk.Same m.nodes (mk0 os).nodes) (h : RMem w ow g os m) (id : Int) (hqb : m.queue.length ≤ 1000) :
    Calls Try.prog 31 #[.pointer (some ⟨g, 0, none⟩), .int .i64 id] w fun e w' => e = .returned (.tuple #[]) ∧ RPost w ow g os (m.reach id) w' := by
  have hasc : m.nodes.Pairwise fun x y => x.id < y.id := by
    refine hs.asc ?_
    unfold mk0
    rw [List.pairwise_map]
    exact ha
  have HM := Lib.hid h
  obtain ⟨oA, oc, cA, cc, qA, qc, h1, h2, h3, h4, o0, o1, o2, o3, hlt⟩ := h
  have HFD := Lib.hid (find_any oA none os.length oc 0 0 os id w h2 hon ha)
  have d0 := h1.cell 0
  have d1 := h1.cell 1
  have d2 := h1.cell 2
  have d3 := h1.cell 3
  have H1 := Lib.hid h1
  have H2 := Lib.hid h2
  have H3 := Lib.hid h3
  have H4 := Lib.hid h4
  have O0 := Lib.hid o0
  have O1 := Lib.hid o1
  have O2 := Lib.hid o2
  have O3 := Lib.hid o3
  have HLT := Lib.hid hlt
  have HS := Lib.hid hs
  have HASC := Lib.hid hasc
  have hgl := h1.lt
  clear h1 h2 h3 h4 o0 o1 o2 o3 hlt hs hasc ha
  obtain ⟨on, hon2⟩ : ∃ on, on = os.length := ⟨_, rfl⟩
  obtain ⟨qn, hqn⟩ : ∃ qn, qn = m.queue.length := ⟨_, rfl⟩
  have HON := Lib.hid hon2
  have HQN := Lib.hid hqn
  rw [← hon2, ← hqn] at d0 d1 d2 d3
  rw [← hon2] at HFD hon
  rw [← hqn] at hqb
  clear hon2 hqn
  go_enter Try.func31, Try.ntmps31
  go_wp2_with fail
  refine HFD.out.mono ?_
  rintro e w1 ⟨r, rfl, hr, k1⟩
  have HM1 := Lib.hid (HM.out.kept k1 (by simp))
  have e2 := (k1.cell (p := ⟨g, 2, none⟩) hgl (by simp)).trans d2
  have e3 := (k1.cell (p := ⟨g, 3, none⟩) hgl (by simp)).trans d3
  have ef : w1.frozen? ⟨g, 3, none⟩ = false := (World.frozen?_of_block (k1.block g hgl (by simp))).trans (H1.out.frozen 3)
  have hgl1 : g < w1.heap.size := Nat.lt_of_lt_of_le hgl k1.size
  have HR := Lib.hid hr
  have K1 := Lib.hid k1
  clear HFD d0 d1 d2 d3 k1
  rcases hr with ⟨i, o, hi, hoi, rfl⟩ | ⟨hno, rfl⟩
  · obtain ⟨x, hx, hxi⟩ := same_index HS.out hi
    have hil : i < on := by rw [HON.out]; exact (List.getElem?_eq_some_iff.1 hi).1
    have hcol := colOf_index HASC.out hx
    rw [hxi, hoi] at hcol
    have row1 : Row w1 cA on cc (colsOf m.nodes) := by rw [HON.out]; exact H3.out.kept K1.out (by simp)
    obtain ⟨cb, co, z, hcA, hcb, hz, hcell⟩ := row1.src.at_ hil
    have hzx : z = (x.col : Int) := by
      unfold colsOf at hz
      rw [List.getElem?_map, hx] at hz
      simpa using hz.symm
    subst hzx hcA
    have b0 : (0 : Int) ≤ (i : Int) := by omega
    have b1 : (i : Int) < (on : Int) := by omega
    by_cases hc0 : x.col = 0
    · rw [hc0] at hcol hcell
      have hreach : m.reach id = ⟨Mk.setCol m.nodes id 1, m.queue ++ [id]⟩ := by unfold Mk.reach; rw [if_pos hcol]
      have t0 : ((0 : Int) == 0) = true := rfl
      have t1 : decide ((0 : Int) ≤ (i : Int)) = true := by simp
      have ocb : ow cb = some 1 := O1.out cb rfl
      have hcg : cb ≠ g := fun e => by rw [e, O0.out] at ocb; injection ocb; omega
      have hqcb : rowBlk qA ≠ some cb := fun e => by have := O2.out _ e; rw [ocb] at this; injection this; omega
      have hqg : rowBlk qA ≠ some g := fun e => by have := O2.out _ e; rw [O0.out] at this; injection this; omega
      have hfz := row1.frozen (co + i)
      have HRE := Lib.hid hreach
      have ROW1 := Lib.hid row1
      have HX := Lib.hid hx
      have HXI : Hid (x.id = id) := by rw [hxi]; exact hoi
      have ROWQ : Hid (Row w1 qA qn qc m.queue) := by rw [HQN.out]; exact H4.out.kept K1.out (by simp)
      clear hreach row1 hi hoi hx hxi hcol HR hz hc0
      go_upto_region 3 with (fail)
      obtain ⟨V, hV⟩ : ∃ V, V = w1.setCell ⟨cb, co + i, none⟩ (.int .i64 1) := ⟨_, rfl⟩
      have kV : Kept (fun k => k = cb) w1 V := by rw [hV]; exact (Kept.refl (fun k => k = cb) w1).setCell (fun _ => rfl) _
      have rowV : Row V (some ⟨cb, co, none⟩) on cc ((colsOf m.nodes).set i 1) := by rw [hV]; exact ROW1.out.set i hil 1
      have g3 : V.cell? ⟨g, 3, none⟩ = some (.slice qA qn qc) := (kV.cell (p := ⟨g, 3, none⟩) hgl1 (fun e => hcg e.symm)).trans e3
      have gf : V.frozen? ⟨g, 3, none⟩ = false := (World.frozen?_of_block (kV.block g hgl1 (fun e => hcg e.symm))).trans ef
      have rq : Row (V.alloc (.cells #[.int .i64 id] 3)) qA qn qc m.queue := (ROWQ.out.kept kV (fun r hr e => hqcb (by rw [hr, e]))).kept ((Kept.refl (fun _ => False) V).alloc _) (by simp)
      have sq : Src (V.alloc (.cells #[.int .i64 id] 3)) (some ⟨V.heap.size, 0, none⟩) 1 [id] := (Row.new V [id] (by show 1 ≤ maxLen; decide)).src
      have hgV : g < V.heap.size := Nat.lt_of_lt_of_le hgl1 kV.size
      rw [← hV]
      have RQ := Lib.hid rq
      have SQ := Lib.hid sq
      have KV := Lib.hid kV
      have ROWV := Lib.hid rowV
      have hb8 : (qn + 1) * 8 ≤ 140737488355328 := by omega
      clear hV kV rowV rq sq e2 e3 ef hcell hfz
      go_wp2_with (at_builtin; refine wpList_append_Row _ rfl _ _ rfl qA qn qc m.queue rfl RQ.out (some ⟨V.heap.size, 0, none⟩) 1 1 [id] rfl SQ.out (by simp) hb8 ?_)
      intro qA' c' w4 r1 r2 r3
      have k4 : Kept (fun k => rowBlk qA = some k) V w4 := ((Kept.refl _ V).alloc _).grown r2 (fun k hk _ => hk)
      have j3 : w4.cell? ⟨g, 3, none⟩ = some (.slice qA qn qc) := (k4.cell (p := ⟨g, 3, none⟩) hgV hqg).trans g3
      have jf : w4.frozen? ⟨g, 3, none⟩ = false := (World.frozen?_of_block (k4.block g hgV hqg)).trans gf
      have HEND : Hid (RPost w ow g os (m.reach id) (w4.setCell ⟨g, 3, none⟩ (.slice qA' (qn + 1) c'))) := by
        have kset : Kept (fun k => k = g) w4 (w4.setCell ⟨g, 3, none⟩ (.slice qA' (qn + 1) c')) := (Kept.refl (fun k => k = g) w4).setCell (fun _ => rfl) _
        have hat : rowBlk qA' = rowBlk qA ∨ ∃ r, rowBlk qA' = some r ∧ w.heap.size ≤ r := by
          rcases r3 with h | ⟨r, h, hr⟩
          · exact .inl h
          · refine .inr ⟨r, h, ?_⟩
            have h1 := K1.out.size
            have h2 := KV.out.size
            omega
        have hlt' : ∀ r, rowBlk qA' = some r → r < w4.heap.size := fun r hr => r1.blk_lt hr
        have hle : ∀ k t, ow k = some t → (fun k => if rowBlk qA' = some k then some 2 else ow k) k = some t := by
          intro k t ht
          simp only
          split
          · rename_i hk'
            rcases hat with h | ⟨r, h, hr⟩
            · rw [hk'] at h
              rw [O2.out k h.symm] at ht
              exact ht
            · rw [hk'] at h
              injection h with h
              have := HLT.out k t ht
              omega
          · exact ht
        have hqg' : rowBlk qA' ≠ some g := by
          rcases hat with h | ⟨r, h, hr⟩
          · rw [h]; exact hqg
          · rw [h]; intro e; injection e with e; omega
        have hne : ∀ k t, ow k = some t → t ≠ 2 → rowBlk qA ≠ some k := fun k t ht h2 e => by have := O2.out k e; rw [ht] at this; injection this with this; exact h2 this
        have hn0 : ∀ k t, ow k = some t → t ≠ 0 → k ≠ g := by
          rintro k t ht h1 rfl
          rw [O0.out] at ht
          injection ht with ht
          exact h1 ht.symm
        have hn1 : ∀ k t, ow k = some t → t ≠ 1 → k ≠ cb := by
          rintro k t ht h1 rfl
          rw [ocb] at ht
          injection ht with ht
          exact h1 ht.symm
        rw [HRE.out]
        have kall : Kept (Own ow) w (w4.setCell ⟨g, 3, none⟩ (.slice qA' (qn + 1) c')) := by
          refine (((K1.out.mono (G := Own ow) (fun _ _ h => h.elim)).trans KV.out (fun i _ e => ⟨1, by rw [e]; exact ocb⟩)).trans k4 (fun i _ e => ⟨2, O2.out i e⟩)).setCell (fun _ => ⟨0, O0.out⟩) _
        refine ⟨fun k => if rowBlk qA' = some k then some 2 else ow k, ⟨oA, oc, some ⟨cb, co, none⟩, cc, qA', c', ?_, ?_, ?_, ?_, hle _ _ O0.out, fun r hr => hle _ _ (O1.out r hr), fun r hr => by simp [hr], fun r hr => hle _ _ (O3.out r hr), ?_⟩, kall, ?_⟩
        · have hb4 := ((H1.out.kept K1.out (by simp)).kept KV.out (fun e => hcg e.symm)).kept k4 hqg
          have := hb4.set_ 3 (.slice qA' (qn + 1) c')
          rw [HQN.out] at this ⊢
          simpa using this
        · exact (((H2.out.later K1.out).keptF KV.out (fun r hr => hn1 _ _ (O3.out r hr) (by omega))).keptF k4 (fun r hr => hne _ _ (O3.out r hr) (by omega))).keptF kset (fun r hr => hn0 _ _ (O3.out r hr) (by omega))
        · have := (ROWV.out.kept k4 (fun r hr => hne _ _ (O1.out r hr) (by omega))).kept kset (fun r hr => hn0 _ _ (O1.out r hr) (by omega))
          rw [← HON.out]
          have e : colsOf (Mk.setCol m.nodes id 1) = (colsOf m.nodes).set i 1 := by
            have := colsOf_set HASC.out HX.out 1
            rw [HXI.out] at this
            exact this
          rw [e]
          exact this
        · have := r1.kept kset (fun r hr e => hqg' (by rw [hr, e]))
          rw [HQN.out] at this ⊢
          simpa using this
        · intro k t ht
          simp only at ht
          have hsz : (w4.setCell ⟨g, 3, none⟩ (.slice qA' (qn + 1) c')).heap.size = w4.heap.size := by simp [World.setCell]
          rw [hsz]
          split at ht
          · rename_i hk'
            exact hlt' k hk'
          · have h1 := HLT.out k t ht
            have h2 := K1.out.size
            have h3 := KV.out.size
            have h4 := k4.size
            omega
        · rintro k ⟨t, ht⟩
          simp only at ht
          split at ht
          · rename_i hk'
            rcases hat with h | ⟨r, h, hr⟩
            · rw [hk'] at h
              exact .inl ⟨_, O2.out k h.symm⟩
            · rw [hk'] at h
              injection h with h
              exact .inr (by omega)
          · exact .inl ⟨t, ht⟩
      clear r1 r2 r3 k4 RQ SQ KV ROWV g3 gf
      go_wp2
      go_end0
      exact ⟨rfl, HEND.out⟩
    · have hreach : m.reach id = m := by
        unfold Mk.reach
        rw [if_neg (by rw [hcol]; simpa using hc0)]
      have t0 : ((x.col : Int) == 0) = false := by simp; omega
      have t1 : decide ((0 : Int) ≤ (i : Int)) = true := by simp
      have HRE := Lib.hid hreach
      clear hreach row1 hi hoi hx hxi hcol HR hz
      go_wp2
      go_end0
      exact ⟨rfl, by rw [HRE.out]; exact HM.out.still K1.out⟩
  · have hreach : m.reach id = m := by
      unfold Mk.reach
      rw [if_neg (by rw [colOf_out HS.out hno]; simp)]
    have HRE := Lib.hid hreach
    clear hreach hno HR
    go_wp2
    go_end0
    exact ⟨rfl, by rw [HRE.out]; exact HM.out.still K1.out⟩
end Go.Proofs.Ytalhldfcdfdoeaa
