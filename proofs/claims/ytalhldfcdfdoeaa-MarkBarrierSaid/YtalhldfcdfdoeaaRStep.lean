/- What is proved here: what the reference marker's Step does: as many plain steps as it is told. Condition: the marker lies in memory, the objects' slices lie in older memory. -/
import Derived.Test.YtalhldfcdfdoeaaRNew
import Derived.Test.YtalhldfcdfdoeaaRefs
namespace Go.Proofs.Ytalhldfcdfdoeaa
open Go.RowKit

theorem FindIs.at2 {os : List Ob} (ha : os.Pairwise fun a b => a.id < b.id) {i : Nat} {o : Ob} (hi : os[i]? = some o) {r : Int} (h : FindIs os o.id r) : r = (i : Int) := by
  rcases h with ⟨j, p, hj, e, rfl⟩ | ⟨h, _⟩
  · have : i = j := by
      obtain ⟨h1, rfl⟩ := List.getElem?_eq_some_iff.1 hi
      obtain ⟨h2, rfl⟩ := List.getElem?_eq_some_iff.1 hj
      rcases Nat.lt_trichotomy i j with h | h | h
      · have := List.pairwise_iff_getElem.1 ha i j h1 h2 h; omega
      · exact h
      · have := List.pairwise_iff_getElem.1 ha j i h2 h1 h; omega
    rw [this]
  · exact absurd rfl (h o (List.mem_of_getElem? hi))

section
variable {w : World} {ow : Nat → Option Nat} {g : Nat} {os : List Ob} {m : Mk}
theorem rm_color (ha : m.nodes.Pairwise fun x y => x.id < y.id) (h : RMem w ow g os m) {i : Nat} {x : Nd} (hx : m.nodes[i]? = some x) (hi : i < os.length) {cb co cc : Nat} (hc : w.cell? ⟨g, 2, none⟩ = some (.slice (some ⟨cb, co, none⟩) os.length cc)) (c : Nat) :
    RMem (w.setCell ⟨cb, co + i, none⟩ (.int .i64 (c : Int))) ow g os ⟨Mk.setCol m.nodes x.id c, m.queue⟩ ∧ ow cb = some 1 := by
  obtain ⟨oA, oc, cA, cc', qA, qc, h1, h2, h3, h4, o0, o1, o2, o3, hlt⟩ := h
  have e := h1.cell 2
  rw [hc] at e
  simp at e
  obtain ⟨rfl, rfl⟩ := e
  have ocb := o1 cb rfl
  have kset : Kept (fun k => k = cb) w (w.setCell ⟨cb, co + i, none⟩ (.int .i64 (c : Int))) := (Kept.refl (fun k => k = cb) w).setCell (fun _ => rfl) _
  have hne : ∀ k t, ow k = some t → t ≠ 1 → k ≠ cb := by
    rintro k t ht hh rfl
    rw [ocb] at ht
    injection ht with ht
    exact hh ht.symm
  refine ⟨⟨oA, oc, some ⟨cb, co, none⟩, cc, qA, qc, h1.kept kset (fun e => hne _ _ o0 (by omega) e), h2.keptF kset (fun r hr => hne _ _ (o3 r hr) (by omega)), ?_, h4.kept kset (fun r hr => hne _ _ (o2 r hr) (by omega)), o0, o1, o2, o3, fun k t ht => Nat.lt_of_lt_of_le (hlt k t ht) kset.size⟩, ocb⟩
  rw [colsOf_set ha hx c]
  exact h3.set i hi (c : Int)
theorem rm_pop {id : Int} {q : List Int} {nodes : List Nd} (h : RMem w ow g os ⟨nodes, id :: q⟩) {A : Option Addr} {qc : Nat} (hc : w.cell? ⟨g, 3, none⟩ = some (.slice A (q.length + 1) qc)) :
    RMem (w.setCell ⟨g, 3, none⟩ (.slice (if qc = 1 then A else A.map (·.add 1)) q.length (qc - 1))) ow g os ⟨nodes, q⟩ := by
  obtain ⟨oA, oc, cA, cc, qA, qc', h1, h2, h3, h4, o0, o1, o2, o3, hlt⟩ := h
  have e := h1.cell 3
  rw [hc] at e
  simp at e
  obtain ⟨rfl, rfl⟩ := e
  have kset : ∀ v, Kept (fun k => k = g) w (w.setCell ⟨g, 3, none⟩ v) := fun v => (Kept.refl (fun k => k = g) w).setCell (fun _ => rfl) _
  have hne : ∀ k t, ow k = some t → t ≠ 0 → k ≠ g := by
    rintro k t ht hh rfl
    rw [o0] at ht
    injection ht with ht
    exact hh ht.symm
  have ht := h4.tail
  refine ⟨oA, oc, cA, cc, _, qc - 1, ?_, h2.keptF (kset _) (fun r hr => hne _ _ (o3 r hr) (by omega)), h3.kept (kset _) (fun r hr => hne _ _ (o1 r hr) (by omega)), ht.kept (kset _) (fun r hr => ?_), o0, o1, fun r hr => ?_, o3, fun k t ht => Nat.lt_of_lt_of_le (hlt k t ht) (kset _).size⟩
  · have := h1.set_ 3 (.slice (if qc = 1 then A else A.map (·.add 1)) q.length (qc - 1))
    simpa using this
  · rw [Row.tail_blk] at hr
    exact hne _ _ (o2 r hr) (by omega)
  · rw [Row.tail_blk] at hr
    exact o2 r hr
end

theorem RPost.more {w w1 w2 : World} {ow : Nat → Option Nat} {g : Nat} {os : List Ob} {m : Mk} {ow1 : Nat → Option Nat} (k1 : Kept (Own ow) w w1) (s1 : ∀ k, Own ow1 k → Own ow k ∨ w.heap.size ≤ k) (h : RPost w1 ow1 g os m w2) : RPost w ow g os m w2 := by
  obtain ⟨ow2, m2, k2, s2⟩ := h
  refine ⟨ow2, m2, k1.trans k2 (fun i hi hf => ?_), fun k hk => ?_⟩
  · rcases s1 i hf with h | h
    · exact h
    · omega
  · rcases s2 k hk with h | h
    · exact s1 k h
    · exact .inr (Nat.le_trans k1.size h)

set_option maxHeartbeats 8000000 in
theorem r_step {wb w : World} {ow : Nat → Option Nat} {g : Nat} {os : List Ob} {m : Mk} (ha : os.Pairwise fun a b => a.id < b.id) (hon : os.length ≤ 100) (hG : m.Good) (hs : Mk.Same m.nodes (mk0 os).nodes) (hob : ∀ o, o ∈ os → ObOk wb o)
    (kb : Kept (fun _ => False) wb w) (hown : ∀ k, Own ow k → wb.heap.size ≤ k) (h : RMem w ow g os m) (n : Nat) (hn : n ≤ 1000) :
    Calls Try.prog 29 #[.pointer (some ⟨g, 0, none⟩), .int .i64 (n : Int)] w fun e w' => e = .returned (.bool (((m.steps n).queue.length : Int) == 0)) ∧ RPost w ow g os (m.steps n) w' := by
  have HM := Lib.hid (h.still (Kept.refl _ w))
  have HA := Lib.hid ha
  have HG := Lib.hid hG
  have HS := Lib.hid hs
  have HOB := Lib.hid hob
  have KB := Lib.hid kb
  have HOWN := Lib.hid hown
  clear ha hG hs hob kb hown h
  obtain ⟨F, hF⟩ : ∃ F, F = m.steps n := ⟨_, rfl⟩
  rw [← hF]
  have HF := Lib.hid hF
  clear hF
  go_enter Try.func29, Try.ntmps29
  go_wp2
  go_loopw [5] (fun i wr => ∃ k : Nat, k ≤ n ∧ i = .int .i64 (k : Int) ∧ RPost w ow g os (m.steps k) wr) (fun i _ => n - (intOf i).toNat)
  case atStart => exact ⟨0, Nat.zero_le _, rfl, HM.out⟩
  case round =>
    obtain ⟨k, hk, rfl, hp⟩ := hrel
    by_cases hlt : k < n
    · by_cases hq0 : (m.steps k).queue = []
      · have he : m.steps k = F := by
          rw [HF.out]
          conv => rhs; rw [show n = k + (n - k) by omega, ← Mk.steps_add, Mk.steps_nil hq0]
        rw [he] at hp hq0
        have HP := Lib.hid hp
        obtain ⟨ow1, ⟨oA, oc, cA, cc, qA, qc, h1, _⟩, _, _⟩ := hp
        have d3 := h1.cell 3
        have t0 : decide ((k : Int) < (n : Int)) = true := by simp; omega
        have t1 : decide (0 < F.queue.length) = false := by simp [hq0]
        have t2 := len0 hq0
        clear h1 hq0 he
        go_wp2
        go_ret
        exact ⟨by rw [t2]; rfl, HP.out⟩
      · obtain ⟨ow1, hR, k1, s1⟩ := hp
        have HOUT : Hid (∀ w2, RPost wr ow1 g os (m.steps k).one w2 → RPost w ow g os (m.steps (k + 1)) w2) := by
          intro w2 h2
          rw [Mk.steps_succ]
          exact RPost.more k1 s1 h2
        have hGk := HG.out.steps k
        have hSk := (Mk.same_steps m k).trans HS.out
        have kbr : Kept (fun _ => False) wb wr := KB.out.trans k1 (fun i hi hf => by have := HOWN.out i hf; omega)
        have own1 : ∀ k, Own ow1 k → wb.heap.size ≤ k := fun j hj => by
          rcases s1 j hj with h | h
          · exact HOWN.out j h
          · exact Nat.le_trans KB.out.size h
        clear k1 s1
        generalize hmk : m.steps k = mk at *
        obtain ⟨nodes, queue⟩ := mk
        simp only at hq0
        obtain ⟨id, q, rfl⟩ : ∃ id q, queue = id :: q := by
          cases queue with
          | nil => exact absurd rfl hq0
          | cons a b => exact ⟨a, b, rfl⟩
        obtain ⟨i, x, hx, hxi, hxc⟩ := find_index ((hGk.gray id).1 (by simp))
        simp only at hx hSk
        obtain ⟨o, ho, hoi⟩ : ∃ o, os[i]? = some o ∧ o.id = id := by
          obtain ⟨y, hy, e⟩ := Mk.Same.at_ (a := (mk0 os).nodes) (b := nodes) (Eq.symm hSk) hx
          unfold mk0 at hy
          rw [List.getElem?_map, Option.map_eq_some_iff] at hy
          obtain ⟨o, ho, rfl⟩ := hy
          exact ⟨o, ho, by rw [← hxi, ← e]; rfl⟩
        have hil : i < os.length := (List.getElem?_eq_some_iff.1 ho).1
        have hall : Mk.allOf nodes id = o.refs ++ W.flatKV o.ents := by
          rw [hSk.all, ← hoi]
          refine allOf_index (l := (mk0 os).nodes) ?_ (i := i) (x := ndOf o) (by unfold mk0; simp [ho])
          unfold mk0
          rw [List.pairwise_map]
          exact HA.out
        have hokb := HOB.out o (List.mem_of_getElem? ho)
        have HR := Lib.hid hR
        obtain ⟨oA, oc, cA, cc, qA, qc, h1, h2, h3, h4, o0, o1, o2, o3, hlt2⟩ := hR
        simp only [List.length_cons] at h1 h4
        have d0 := h1.cell 0
        have d1 := h1.cell 1
        have d3 := h1.cell 3
        have f3 := h1.frozen 3
        obtain ⟨qb, qoff, x0, hqA, hqb, hx0, hqcell⟩ := h4.src.at_ (j := 0) (by omega)
        simp at hx0
        subst hx0
        subst hqA
        simp only [Nat.add_zero] at hqcell
        have hqc : q.length + 1 ≤ qc := h4.2.1
        have t0 : decide ((k : Int) < (n : Int)) = true := by simp; omega
        have t1 : decide (0 < q.length + 1) = true := by simp
        have O0 := Lib.hid o0
        have HGK := Lib.hid hGk
        have HX := Lib.hid hx
        have HXI := Lib.hid hxi
        have HSK := Lib.hid hSk
        have HO9 := Lib.hid ho
        have HOI := Lib.hid hoi
        have HALL := Lib.hid hall
        have HOKB := Lib.hid hokb
        have KBR := Lib.hid kbr
        have OWN1 := Lib.hid own1
        clear h1 h2 h3 h4 o0 o1 o2 o3 hlt2 hGk hx hxi hSk ho hoi hall hokb kbr own1 hxc
        go_upto_region 8 with (fail)
        obtain ⟨V, hV⟩ : ∃ V, V = wr.setCell ⟨g, 3, none⟩ (.slice (if qc = 1 then some ⟨qb, qoff, none⟩ else some ⟨qb, qoff + 1, none⟩) q.length (qc - 1)) := ⟨_, rfl⟩
        have hRV : RMem V ow1 g os ⟨nodes, q⟩ := by rw [hV]; exact rm_pop HR.out d3
        have kV : Kept (Own ow1) wr V := by rw [hV]; exact (Kept.refl _ wr).setCell (fun _ => ⟨_, O0.out⟩) _
        rw [← hV]
        clear hV
        generalize (if qc = 1 then (some ⟨qb, qoff, none⟩ : Option Addr) else some ⟨qb, qoff + 1, none⟩) = QA
        clear d0 d1 d3 f3 hqcell hqb
        have KV := Lib.hid kV
        have HRV := Lib.hid hRV
        obtain ⟨oA2, oc2, cA2, cc2, qA2, qc2, g1, g2, g3, g4, p0, p1, p2, p3, plt⟩ := hRV
        have d0 := g1.cell 0
        have d1 := g1.cell 1
        have hgl := g1.lt
        have HFD := Lib.hid (find_any oA2 none os.length oc2 0 0 os id V g2 (by omega) HA.out)
        have G1 := Lib.hid g1
        have G2 := Lib.hid g2
        clear g1 g2 g3 g4 p0 p1 p2 p3 plt kV
        go_wp2_with fail
        refine HFD.out.mono ?_
        rintro e w5 ⟨r, rfl, hr, k5⟩
        obtain rfl := FindIs.at2 HA.out HO9.out (by rw [HOI.out]; exact hr)
        obtain ⟨ob, oo, hOA, hobl, hcells⟩ := G2.out.at_ (by omega)
        obtain ⟨oid, osz, owk, orA, orc, orefs, oeA, oec, oents⟩ := o
        obtain ⟨m0, m1, m2, m3, m4⟩ := hcells i _ HO9.out
        simp only at m0 m1 m2 m3 m4
        have e0 := (k5.cell (p := ⟨ob, oo + i * 5, none⟩) hobl (by simp)).trans m0
        have e1 := (k5.cell (p := ⟨ob, oo + i * 5 + 1, none⟩) hobl (by simp)).trans m1
        have e2 := (k5.cell (p := ⟨ob, oo + i * 5 + 2, none⟩) hobl (by simp)).trans m2
        have e3 := (k5.cell (p := ⟨ob, oo + i * 5 + 3, none⟩) hobl (by simp)).trans m3
        have e4 := (k5.cell (p := ⟨ob, oo + i * 5 + 4, none⟩) hobl (by simp)).trans m4
        have c0 := (k5.cell (p := ⟨g, 0, none⟩) hgl (by simp)).trans d0
        subst hOA
        have KV5 : Hid (Kept (fun _ => False) wb w5) := (KBR.out.trans KV.out (fun i hi hf => by have := OWN1.out i hf; omega)).trans k5 (fun _ _ h => h)
        have HRF := Lib.hid (refs_any ⟨oid, osz, owk, orA, orc, orefs, oeA, oec, oents⟩ w5 (HOKB.out.later KV5.out))
        have hfw := HOKB.out.few
        simp only at hfw
        have HLB : Hid ((orefs ++ W.flatKV oents).length ≤ 800) := by show _ ≤ _; rw [List.length_append, W.flatKV_length]; omega
        have HR5 := Lib.hid (HRV.out.kept k5 (by simp))
        have K5 : Hid (Kept (Own ow1) wr w5) := KV.out.trans k5 (fun _ _ h => h.elim)
        have b0 : (0 : Int) ≤ (i : Int) := by omega
        have b1 : (i : Int) < (os.length : Int) := by omega
        clear hr hcells m0 m1 m2 m3 m4 d0 d1 HFD k5 G1 G2 HRV KV
        go_wp2_with fail
        refine HRF.out.mono ?_
        rintro e w6 ⟨v, rfl, AL, cL, rfl, rowL, frL, kL⟩
        have HALL2 : Hid (Mk.allOf nodes id = orefs ++ W.flatKV oents) := HALL.out
        clear HALL
        have HALL := HALL2
        clear HALL2
        try simp only at rowL
        generalize hLL : orefs ++ W.flatKV oents = L at *
        have HL0 : Hid (∃ ow2, RMem w6 ow2 g os ((L.take 0).foldl Mk.reach ⟨nodes, q⟩) ∧ Kept (Own ow1) wr w6 ∧ (∀ k, Own ow2 k → Own ow1 k ∨ wr.heap.size ≤ k) ∧ (∀ r, rowBlk AL = some r → ¬ Own ow2 r) ∧ Src w6 AL L.length L) := by
          refine ⟨ow1, HR5.out.kept kL (by simp), K5.out.trans kL (fun _ _ h => h.elim), fun k h => .inl h, ?_, rowL.src⟩
          intro r hr ho
          have h1 := frL r hr
          have h2 := HR5.out.lt r ho
          omega
        clear rowL frL kL HRF e0 e1 e2 e3 e4 c0
        obtain ⟨wo, rfl⟩ : ∃ wo : World, wo = wr := ⟨_, rfl⟩
        go_wp2
        go_loopw [9] (fun i wz => ∃ j : Nat, j ≤ L.length ∧ i = .int .i64 (j : Int) ∧ ∃ ow2, RMem wz ow2 g os ((L.take j).foldl Mk.reach ⟨nodes, q⟩) ∧ Kept (Own ow1) wo wz ∧ (∀ k, Own ow2 k → Own ow1 k ∨ wo.heap.size ≤ k) ∧ (∀ r, rowBlk AL = some r → ¬ Own ow2 r) ∧ Src wz AL L.length L) (fun i _ => L.length - (intOf i).toNat)
        case atStart => exact ⟨0, Nat.zero_le _, rfl, HL0.out⟩
        case round =>
          obtain ⟨j, hj, rfl, ow2, hM2, k2, s2, nL, srcL⟩ := hrel
          have hb9 := HLB.out
          by_cases hjl : j < L.length
          · obtain ⟨rb, roff, y, hA, hrb, hy, e0⟩ := srcL.at_ hjl
            have hLj : L.take (j + 1) = L.take j ++ [y] := by
              obtain ⟨hjl, he⟩ := List.getElem?_eq_some_iff.1 hy
              rw [List.take_succ_eq_append_getElem hjl, he]
            have hqb2 : ((L.take j).foldl Mk.reach ⟨nodes, q⟩).queue.length ≤ 1000 := by
              have h1 := reaches_queue (L.take j) ⟨nodes, q⟩
              have h2 := HGK.out.few
              have h3 : nodes.length = os.length := by rw [HSK.out.length]; simp [mk0]
              simp only [List.length_take, List.length_cons] at h1 h2
              omega
            have hc := r_reach HA.out (by omega) ((Mk.same_reaches (L.take j) ⟨nodes, q⟩).trans HSK.out) hM2 y hqb2
            have hstep : Mk.reach ((L.take j).foldl Mk.reach ⟨nodes, q⟩) y = (L.take (j + 1)).foldl Mk.reach ⟨nodes, q⟩ := by
              rw [hLj, List.foldl_append]
              rfl
            rw [hstep] at hc
            have HC := Lib.hid hc
            have K2 := Lib.hid k2
            have S2 := Lib.hid s2
            have NL := Lib.hid nL
            have SL := Lib.hid srcL
            subst hA
            have b0 : (0 : Int) ≤ (j : Int) := by omega
            have b2 : (j : Int) < (L.length : Int) := by omega
            clear hc hM2 k2 s2 nL srcL hLj hqb2 hstep hy
            go_wp2_with fail
            refine HC.out.mono ?_
            rintro e w7 ⟨rfl, ow3, hM3, k3, s3⟩
            have HN3 : Hid (∃ ow2, RMem w7 ow2 g os ((L.take (j + 1)).foldl Mk.reach ⟨nodes, q⟩) ∧ Kept (Own ow1) wo w7 ∧ (∀ k, Own ow2 k → Own ow1 k ∨ wo.heap.size ≤ k) ∧ (∀ r, rowBlk (some ⟨rb, roff, none⟩) = some r → ¬ Own ow2 r) ∧ Src w7 (some ⟨rb, roff, none⟩) L.length L) := by
              refine ⟨ow3, hM3, K2.out.trans k3 (fun i hi hf => ?_), fun k hk => ?_, fun r hr hk => ?_, SL.out.kept k3 NL.out⟩
              · rcases S2.out i hf with h | h
                · exact h
                · omega
              · rcases s3 k hk with h | h
                · exact S2.out k h
                · exact .inr (Nat.le_trans K2.out.size h)
              · rcases s3 r hk with h | h
                · exact NL.out r hr h
                · simp [rowBlk] at hr; omega
            clear hM3 k3 s3 HC K2 S2 NL SL e0
            go_wp2
            go_roundw
            case rel => exact ⟨j + 1, by omega, by go_num, HN3.out⟩
            case measure => simp [intOf]; omega
          · rw [List.take_of_length_le (by omega)] at hM2
            obtain ⟨y, hy, hyi⟩ := (Mk.same_reaches L ⟨nodes, q⟩).at_ HX.out
            have hrow := hM2
            obtain ⟨oA3, oc3, cA3, cc3, qA3, qc3, j1, j2, j3, j4, _⟩ := hrow
            have d2 := j1.cell 2
            obtain ⟨cb, co, z, hcA, hcb, hz, hcell⟩ := j3.src.at_ hil
            subst hcA
            have ff := j3.frozen (co + i)
            obtain ⟨hset, hcbo⟩ := rm_color ((Mk.same_reaches L ⟨nodes, q⟩).asc HGK.out.asc) hM2 hy hil d2 2
            rw [hyi, HXI.out] at hset
            have HEND : Hid (RPost w ow g os (m.steps (k + 1)) (wr.setCell ⟨cb, co + i, none⟩ (.int .i64 2))) := by
              refine HOUT.out _ ⟨ow2, ?_, k2.setCell (fun hlt => ?_) _, s2⟩
              · have : Mk.one ⟨nodes, id :: q⟩ = ⟨Mk.setCol (L.foldl Mk.reach ⟨nodes, q⟩).nodes id 2, (L.foldl Mk.reach ⟨nodes, q⟩).queue⟩ := by
                  unfold Mk.one
                  simp only
                  rw [HALL.out]
                rw [this]
                exact hset
              · rcases s2 cb ⟨_, hcbo⟩ with h | h
                · exact h
                · exact absurd hlt (Nat.not_lt.2 h)
            clear hset hcbo hM2 k2 s2 nL srcL hy hyi j1 j2 j3 j4 HOUT hz
            go_wp2
            go_roundw
            case rel => exact ⟨k + 1, by omega, by go_num, HEND.out⟩
            case measure => simp [intOf]; omega
    · obtain rfl : k = n := by omega
      rw [← HF.out] at hp
      have HP := Lib.hid hp
      obtain ⟨ow1, ⟨oA, oc, cA, cc, qA, qc, h1, _⟩, _, _⟩ := hp
      have d3 := h1.cell 3
      clear h1
      go_wp2
      go_ret
      exact ⟨rfl, HP.out⟩
end Go.Proofs.Ytalhldfcdfdoeaa
