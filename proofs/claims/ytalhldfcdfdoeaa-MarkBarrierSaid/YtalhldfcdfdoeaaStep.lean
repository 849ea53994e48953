/- What is proved here: what Step does to a marker in memory: as many plain steps as it is told, and whether nothing is gray at the end. Condition: the marker lies in memory and is well formed. -/
import Derived.Test.YtalhldfcdfdoeaaNew
namespace Go.Proofs.Ytalhldfcdfdoeaa
open Go.RowKit

section
variable {w : World} {ow : Nat → Option Nat} {g : Nat} {m : Mk} {nbs : List Nat}

/-- A store of the queue. -/
theorem mm_queue {mb qc : Nat} {qA : Option Addr} {old : Value} (hl : nbs.length = m.nodes.length) (o0 : ow g = some 0) (o1 : ow mb = some 1) (o2 : ∀ r, rowBlk qA = some r → ow r = some 2) (hb : Blk w g 55 #[.map (some mb), old]) (q : List Int)
    (hq : Row w qA q.length qc q) (hm : MapM w mb ((m.nodes.map Nd.id).zip nbs)) (hn : ∀ i x nb, m.nodes[i]? = some x → nbs[i]? = some nb → NodeAt w ow i nb x) (hlt : ∀ k t, ow k = some t → k < w.heap.size) :
    MMemN (w.setCell ⟨g, 1, none⟩ (.slice qA q.length qc)) ow g nbs ⟨m.nodes, q⟩ := by
  have kset : Kept (fun k => k = g) w (w.setCell ⟨g, 1, none⟩ (.slice qA q.length qc)) := (Kept.refl (fun k => k = g) w).setCell (fun _ => rfl) _
  have hne : ∀ k t, ow k = some t → t ≠ 0 → k ≠ g := by
    rintro k t ht h1 rfl
    rw [o0] at ht
    injection ht with ht
    exact h1 ht.symm
  refine ⟨mb, qA, qc, hl, o0, o1, o2, by simpa using hb.set_ 1 _, hq.kept kset (fun r hr => hne _ _ (o2 r hr) (by omega)), hm.kept kset (hne _ _ o1 (by omega)), fun i x nb hx hnb => (hn i x nb hx hnb).kept kset (fun k t hk ht => ?_) (fun _ _ h => h), fun k t ht => Nat.lt_of_lt_of_le (hlt k t ht) kset.size⟩
  subst hk
  rw [o0] at ht
  injection ht with ht
  omega

/-- A store of a color. -/
theorem mm_color (ha : m.nodes.Pairwise fun x y => x.id < y.id) (h : MMemN w ow g nbs m) {i nb : Nat} {x : Nd} (hx : m.nodes[i]? = some x) (hnb : nbs[i]? = some nb) (c : Nat) :
    MMemN (w.setCell ⟨nb, 2, none⟩ (.int .i64 (c : Int))) ow g nbs ⟨Mk.setCol m.nodes x.id c, m.queue⟩ ∧ ow nb = some (3 + 3 * i) := by
  obtain ⟨mb, qA, qc, hl, o0, o1, o2, hb, hq, hm, hn, hlt⟩ := h
  obtain ⟨A1, c1, A2, c2, hbn, hr1, hr2, p0, p1, p2⟩ := hn i x nb hx hnb
  have kset : Kept (fun k => k = nb) w (w.setCell ⟨nb, 2, none⟩ (.int .i64 (c : Int))) := (Kept.refl (fun k => k = nb) w).setCell (fun _ => rfl) _
  have hne : ∀ k t, ow k = some t → t ≠ 3 + 3 * i → k ≠ nb := by
    rintro k t ht h1 rfl
    rw [p0] at ht
    injection ht with ht
    exact h1 ht.symm
  refine ⟨⟨mb, qA, qc, by simpa [Mk.setCol] using hl, o0, o1, o2, hb.kept kset (hne _ _ o0 (by omega)), hq.kept kset (fun r hr => hne _ _ (o2 r hr) (by omega)), ?_, ?_, fun k t ht => Nat.lt_of_lt_of_le (hlt k t ht) kset.size⟩, p0⟩
  · simp only
    rw [Mk.setCol_ids]
    exact hm.kept kset (hne _ _ o1 (by omega))
  · intro j y nb' hy hnb'
    simp only at hy
    rw [setCol_get, Option.map_eq_some_iff] at hy
    obtain ⟨y0, hy0, rfl⟩ := hy
    by_cases hj : y0.id = x.id
    · have hij : i = j := asc_index ha hx hy0 hj.symm
      subst hij
      rw [hx] at hy0
      injection hy0 with hy0
      subst hy0
      rw [hnb] at hnb'
      injection hnb' with hnb'
      subst hnb'
      rw [if_pos hj]
      refine ⟨A1, c1, A2, c2, by simpa using hbn.set_ 2 (.int .i64 (c : Int)), hr1.kept kset (fun r hr => hne _ _ (p1 r hr) (by omega)), hr2.kept kset (fun r hr => hne _ _ (p2 r hr) (by omega)), p0, p1, p2⟩
    · rw [if_neg hj]
      refine (hn j y0 nb' hy0 hnb').kept kset (fun k t hk ht => ?_) (fun _ _ h => h)
      subst hk
      rw [p0] at ht
      injection ht with ht
      have : i ≠ j := by
        rintro rfl
        rw [hx] at hy0
        injection hy0 with hy0
        subst hy0
        exact hj rfl
      omega
end

theorem MPost.more {w w1 w2 : World} {ow : Nat → Option Nat} {g : Nat} {m m' : Mk} (h : MPost w ow g m w1) (k : ∀ ow1, MMem w1 ow1 g m → MPost w1 ow1 g m' w2) : MPost w ow g m' w2 := by
  obtain ⟨ow1, m1, k1, s1⟩ := h
  obtain ⟨ow2, m2, k2, s2⟩ := k ow1 m1
  refine ⟨ow2, m2, k1.trans k2 (fun i hi hf => ?_), fun k hk => ?_⟩
  · rcases s1 i hf with h | h
    · exact h
    · omega
  · rcases s2 k hk with h | h
    · exact s1 k h
    · exact .inr (Nat.le_trans k1.size h)

/-- No object refers to too many. -/
def Few (m : Mk) : Prop := m.nodes.length ≤ 100 ∧ ∀ id, (Mk.allOf m.nodes id).length ≤ 800 ∧ (∀ r, r ∈ Mk.allOf m.nodes id → I64 r) ∧ ((Mk.colOf m.nodes id).isSome → I64 id)
theorem Few.same {m k : Mk} (h : Few m) (hs : Mk.Same k.nodes m.nodes) : Few k := by
  refine ⟨by rw [hs.length]; exact h.1, fun id => ?_⟩
  rw [hs.all, hs.isSome]
  exact h.2 id

theorem steps_neg {m : Mk} {n : Int} (h : n ≤ 0 ∨ m.nodes.length = 0) (hG : m.Good) : m.steps n.toNat = m := by
  rcases h with h | h
  · rw [show n.toNat = 0 by omega]; rfl
  · rw [← Mk.steps_cap hG, h, Nat.min_zero]; rfl

theorem Row.none_len {w : World} {A : Option Addr} {n c : Nat} {xs : List Int} (h : Row w A n c xs) (hA : A = none) : n = 0 := by
  obtain ⟨h1, h2, h3, h | ⟨g, off, cur, rfl, _⟩⟩ := h
  · omega
  · cases hA
theorem allOf_index {l : List Nd} (ha : l.Pairwise fun x y => x.id < y.id) {i : Nat} {x : Nd} (hx : l[i]? = some x) : Mk.allOf l x.id = x.refs ++ x.ents := by
  unfold Mk.allOf
  have : l.find? (fun y => y.id == x.id) = some x := by
    induction l generalizing i with
    | nil => simp at hx
    | cons y l ih =>
      obtain ⟨h1, h2⟩ := List.pairwise_cons.1 ha
      rw [List.find?_cons]
      cases i with
      | zero =>
        simp at hx
        subst hx
        simp
      | succ i =>
        rw [List.getElem?_cons_succ] at hx
        have := h1 x (List.mem_of_getElem? hx)
        have hne : (y.id == x.id) = false := by simp; omega
        rw [hne]
        exact ih h2 hx
  rw [this]
  rfl
theorem Mk.Same.at_ {a b : List Nd} (h : Mk.Same a b) {i : Nat} {x : Nd} (hx : b[i]? = some x) : ∃ y, a[i]? = some y ∧ y.id = x.id := by
  have := congrArg (fun l => l[i]?) h.ids
  simp only [List.getElem?_map, hx, Option.map_some] at this
  exact Option.map_eq_some_iff.1 this
theorem reaches_queue (l : List Int) (m : Mk) : (l.foldl Mk.reach m).queue.length ≤ m.queue.length + l.length := by
  induction l generalizing m with
  | nil => simp
  | cons x l ih =>
    have h1 : (m.reach x).queue.length ≤ m.queue.length + 1 := by
      unfold Mk.reach
      split <;> simp
    have := ih (m.reach x)
    simp only [List.foldl_cons, List.length_cons]
    omega
theorem len0 {q : List Int} (h : q = []) : ((q.length : Int) == 0) = true := by simp [h]

set_option maxHeartbeats 4000000 in
theorem m_step0 {w : World} {ow : Nat → Option Nat} {g : Nat} {m : Mk} (hG : m.Good) (h : MMem w ow g m) (n : Int) (hc : n ≤ 0 ∨ m.nodes.length = 0) :
    Calls Try.prog 11 #[.pointer (some ⟨g, 0, none⟩), .int .i64 n] w fun e w' => e = .returned (.bool (((m.steps n.toNat).queue.length : Int) == 0)) ∧ MPost w ow g (m.steps n.toNat) w' := by
  rw [steps_neg hc hG]
  have hm0 := h.same
  obtain ⟨nbs, mb, qA, qc, hl, o0, o1, o2, hb, hq, hm, hn, hlt⟩ := h
  have h0 := hb.cell 0
  have h1 := hb.cell 1
  have hlen := hm.len (zip_apart hG.asc nbs)
  rw [List.length_zip, List.length_map, hl, Nat.min_self] at hlen
  have HM0 := Lib.hid hm0
  clear hl o0 o1 o2 hb hq hm hn hlt hm0 hG
  go_enter Try.func11, Try.ntmps11
  go_wp2
  all_goals (try (exfalso; omega))
  all_goals
    go_loop [18] (fun i => i = .int .i64 0) (fun _ => 0)
    case atStart => rfl
    case round =>
      subst hrel
      go_wp2
      go_ret
      exact ⟨rfl, HM0.out⟩

set_option maxHeartbeats 4000000 in
theorem m_step1 {w : World} {ow : Nat → Option Nat} {g : Nat} {m : Mk} (hG : m.Good) (hF : Few m) (h : MMem w ow g m) (M : Nat) (hc : ¬ (M = 0 ∨ m.nodes.length = 0)) :
    Calls Try.prog 11 #[.pointer (some ⟨g, 0, none⟩), .int .i64 (M : Int)] w fun e w' => e = .returned (.bool (((m.steps M).queue.length : Int) == 0)) ∧ MPost w ow g (m.steps M) w' := by
  obtain ⟨F, hF0⟩ : ∃ F, F = m.steps M := ⟨_, rfl⟩
  rw [← hF0]
  have hm0 := h.same
  obtain ⟨nbs, mb, qA, qc, hl, o0, o1, o2, hb, hq, hm, hn, hlt⟩ := h
  have h0 := hb.cell 0
  have hlen := hm.len (zip_apart hG.asc nbs)
  rw [List.length_zip, List.length_map, hl, Nat.min_self] at hlen
  have HM0 := Lib.hid hm0
  have HF := Lib.hid hF
  have HG := Lib.hid hG
  obtain ⟨N, hN⟩ : ∃ N, N = m.nodes.length := ⟨_, rfl⟩
  rw [← hN] at hlen hc
  have HCAP : Hid (∀ T, (T = M ∨ T = N ∧ N < M) → m.steps T = m.steps M) := by
    show ∀ T, (T = M ∨ T = N ∧ N < M) → m.steps T = m.steps M
    rintro T (rfl | ⟨rfl, h⟩)
    · rfl
    · rw [← Mk.steps_cap hG M, ← hN, Nat.min_eq_right (by omega)]
  have HN := Lib.hid hN
  clear hl o0 o1 o2 hb hq hm hn hlt hm0 hF hG hN
  obtain ⟨c1, c2⟩ : 0 < M ∧ 0 < N := by omega
  clear hc
  obtain ⟨T, hT⟩ : ∃ T : Nat, T = M ∧ M ≤ N ∨ T = N ∧ N < M := by
    rcases Nat.lt_or_ge N M with h | h
    · exact ⟨N, .inr ⟨rfl, h⟩⟩
    · exact ⟨M, .inl ⟨rfl, h⟩⟩
  have HT : Hid (m.steps T = F) := by rw [hF0]; exact HCAP.out T (by omega)
  have hTb : T ≤ 100 := by
    have h1 := HF.out.1
    have h2 := HN.out
    omega
  clear HCAP hF0
  rcases hT with ⟨rfl, hle⟩ | ⟨rfl, hle⟩
  all_goals
    go_enter Try.func11, Try.ntmps11
    go_wp2
  all_goals (try (exfalso; omega))
  all_goals
    go_loopw [18] (fun i wr => ∃ k : Nat, k ≤ T ∧ i = .int .i64 (k : Int) ∧ MPost w ow g (m.steps k) wr) (fun i _ => T - (intOf i).toNat)
    case atStart => exact ⟨0, Nat.zero_le _, rfl, HM0.out⟩
    case round =>
      obtain ⟨k, hk, rfl, hp⟩ := hrel
      by_cases hlt : k < T
      · by_cases hq0 : (m.steps k).queue = []
        · have he1 : m.steps k = m.steps T := by
            conv => rhs; rw [show T = k + (T - k) by omega, ← Mk.steps_add, Mk.steps_nil hq0]
          have he := he1.trans HT.out
          rw [he] at hp hq0
          have HP := Lib.hid hp
          obtain ⟨ow1, ⟨nbs, mb1, qA1, qc1, hl, o0, o1, o2, hb, hq, hm, hn, hlt2⟩, k1, s1⟩ := hp
          have d0 := hb.cell 0
          have d1 := hb.cell 1
          have t0 := len0 hq0
          clear hl o0 o1 o2 hb hq hm hn hlt2 k1 s1 hq0 he he1
          go_wp2
          go_ret
          exact ⟨by rw [t0]; rfl, HP.out⟩
        · have hGk := HG.out.steps k
          have hFk := HF.out.same (Mk.same_steps m k)
          have HOUT : Hid (∀ w2, (∀ ow1, MMem wr ow1 g (m.steps k) → MPost wr ow1 g (m.steps k).one w2) → MPost w ow g (m.steps (k + 1)) w2) := by
            show ∀ w2, (∀ ow1, MMem wr ow1 g (m.steps k) → MPost wr ow1 g (m.steps k).one w2) → MPost w ow g (m.steps (k + 1)) w2
            intro w2 h2
            rw [Mk.steps_succ]
            exact hp.more h2
          obtain ⟨ow1, hMM, k1, s1⟩ := hp
          have HS1 : Hid (∀ w2 ow2, MMem w2 ow2 g (m.steps k).one → Kept (Own ow1) wr w2 → (∀ k, Own ow2 k → Own ow1 k ∨ wr.heap.size ≤ k) → MPost w ow g (m.steps (k + 1)) w2) := by
            show ∀ w2 ow2, MMem w2 ow2 g (m.steps k).one → Kept (Own ow1) wr w2 → (∀ k, Own ow2 k → Own ow1 k ∨ wr.heap.size ≤ k) → MPost w ow g (m.steps (k + 1)) w2
            intro w2 ow2 h2 h3 h4
            rw [Mk.steps_succ]
            refine ⟨ow2, h2, k1.trans h3 (fun i hi hf => ?_), fun k hk => ?_⟩
            · rcases s1 i hf with h | h
              · exact h
              · omega
            · rcases h4 k hk with h | h
              · exact s1 k h
              · exact .inr (Nat.le_trans k1.size h)
          clear HOUT k1 s1
          generalize hmk : m.steps k = mk at *
          obtain ⟨nodes, queue⟩ := mk
          simp only at hq0
          obtain ⟨id, q, rfl⟩ : ∃ id q, queue = id :: q := by
            cases queue with
            | nil => exact absurd rfl hq0
            | cons a b => exact ⟨a, b, rfl⟩
          obtain ⟨i, x, hx, hxi, hxc⟩ := find_index ((hGk.gray id).1 (by simp))
          have hid : I64 id := (hFk.2 id).2.2 (by rw [(hGk.gray id).1 (by simp)]; rfl)
          obtain ⟨nbs, mb1, qA1, qc1, hl, o0, o1, o2, hb, hq, hm, hn, hlt2⟩ := hMM
          simp only at hx hl hb hq hm hn
          have hi : i < nbs.length := by rw [hl]; exact (List.getElem?_eq_some_iff.1 hx).1
          obtain ⟨nb, hnb⟩ : ∃ nb, nbs[i]? = some nb := ⟨_, List.getElem?_eq_getElem hi⟩
          have hmem := zip_mem hx hnb
          rw [hxi] at hmem
          have hlook := (hm.look_some (zip_apart hGk.asc nbs) hmem hid).2
          have d0 := hb.cell 0
          have d1 := hb.cell 1
          obtain ⟨qb, qoff, x0, hqA, hqb, hx0, hqcell⟩ := hq.src.at_ (j := 0) (by simp)
          simp at hx0
          subst hx0
          subst hqA
          simp only [Nat.add_zero] at hqcell
          have hqc : q.length + 1 ≤ qc1 := by have := hq.2.1; simpa using this
          have hf1 := hb.frozen 1
          have hlookd := ((hm.kept ((Kept.refl (fun _ => False) wr).drew) (by simp)).look_some (zip_apart hGk.asc nbs) hmem hid).2
          have HB := Lib.hid hb
          have HQ := Lib.hid hq
          have HM := Lib.hid hm
          have HN2 := Lib.hid hn
          have HLT := Lib.hid hlt2
          have HL := Lib.hid hl
          have O0 := Lib.hid o0
          have O1 := Lib.hid o1
          have O2 := Lib.hid o2
          have HFK := Lib.hid hFk
          have HGK := Lib.hid hGk
          have HX := Lib.hid hx
          have HXI := Lib.hid hxi
          have HNB := Lib.hid hnb
          clear hb hq hm hn hlt2 hl hlook o0 o1 o2 hFk hGk hx hxi hnb hmem hxc
          have b1 : (k : Int) < (T : Int) := by omega
          simp only [List.length_cons] at d0 d1
          have t0 : (((q.length + 1 : Nat) : Int) == 0) = false := by simp; omega
          go_wp2_with fail
          go_region_held3 (fun w' => w'.cell? ⟨g, 0, none⟩ = some (.map (some mb1)) ∧ w'.cell? ⟨g, 1, none⟩ = some (.slice (some ⟨qb, qoff, none⟩) (q.length + 1) qc1) ∧ w'.cell? ⟨qb, qoff, none⟩ = some (.int .i64 id) ∧ (Instr.lookup 53 (.map (some mb1)) (.int .i64 id) false).run Try.prog w' = .ok (.pointer (some ⟨nb, 0, none⟩)) w') (first | exact ⟨d0, d1, hqcell, hlookd⟩ | go_keep) (fail)
          go_upto_region 8 with (fail)
          obtain ⟨V, hV⟩ : ∃ V, V = (wr.setCell ⟨g, 1, none⟩ (.slice (if qc1 = 1 then some ⟨qb, qoff, none⟩ else some ⟨qb, qoff + 1, none⟩) q.length (qc1 - 1))).drew := ⟨_, rfl⟩
          have hMV : MMemN V ow1 g nbs ⟨nodes, q⟩ := by
            have ht := HQ.out.tail
            have hbk : rowBlk (if qc1 = 1 then (some ⟨qb, qoff, none⟩ : Option Addr) else (some ⟨qb, qoff, none⟩ : Option Addr).map (·.add 1)) = rowBlk (some ⟨qb, qoff, none⟩) := Row.tail_blk _
            have := mm_queue (m := ⟨nodes, q⟩) HL.out O0.out O1.out (fun r hr => O2.out r (by rw [← hbk]; exact hr)) HB.out q ht HM.out HN2.out HLT.out
            rw [hV]
            obtain ⟨a, b, c, e⟩ := this
            exact ⟨a, b, c, e⟩
          have kV : Kept (Own ow1) wr V := by rw [hV]; exact ((Kept.refl _ wr).setCell (fun _ => ⟨_, O0.out⟩) _).drew
          rw [← hV]
          clear hV
          generalize (if qc1 = 1 then (some ⟨qb, qoff, none⟩ : Option Addr) else some ⟨qb, qoff + 1, none⟩) = QA
          clear d0 d1 hqcell hlookd hf1 HB HQ HM HN2 HLT HL O0 O1 O2 hqb
          have hnode := (by obtain ⟨_, _, _, _, _, _, _, _, _, _, hn, _⟩ := hMV; exact hn i x nb HX.out HNB.out : NodeAt V ow1 i nb x)
          obtain ⟨A1, c1', A2, c2', hbn, hr1, hr2, p0, p1, p2⟩ := hnode
          have hall := allOf_index HGK.out.asc HX.out
          rw [HXI.out] at hall
          have hLb : x.refs.length + x.ents.length ≤ 800 := by
            have := (HFK.out.2 id).1
            simp only at this
            rw [hall, List.length_append] at this
            exact this
          have hLi : ∀ r, r ∈ x.refs ++ x.ents → I64 r := by
            have := (HFK.out.2 id).2.1
            simp only at this
            rw [hall] at this
            exact this
          have HC := Lib.hid (W.all_any nb A1 A2 _ _ c1' c2' x.refs x.ents V (hbn.cell 0) (hbn.cell 1) hbn.lt hr1.src hr2.src hr1.none_len hr2.none_len (by omega))
          have HMV := Lib.hid hMV
          have KV := Lib.hid kV
          have HALL := Lib.hid hall
          have HLI := Lib.hid hLi
          have HLB : Hid ((x.refs ++ x.ents).length ≤ 800) := by show _ ≤ _; rw [List.length_append]; exact hLb
          clear hMV kV hbn hr1 hr2 p0 p1 p2 hall hLi hLb
          go_wp2_with fail
          refine HC.out.mono ?_
          rintro e V2 ⟨v, rfl, AL, cL, rfl, rowL, frL, kL⟩
          generalize hLL : x.refs ++ x.ents = L at *
          have HL0 : Hid (∃ ow2, MMemN V2 ow2 g nbs ((L.take 0).foldl Mk.reach ⟨nodes, q⟩) ∧ Kept (Own ow1) wr V2 ∧ (∀ k, Own ow2 k → Own ow1 k ∨ wr.heap.size ≤ k) ∧ (∀ r, rowBlk AL = some r → ¬ Own ow2 r) ∧ Src V2 AL L.length L) := by
            obtain ⟨a1, a2, a3, a4, a5, a6, a7, a8, a9, a10, a11, a12⟩ := HMV.out
            refine ⟨ow1, ⟨a1, a2, a3, a4, a5, a6, a7, a8.kept kL (by simp), a9.kept kL (by simp), a10.kept kL (by simp), fun i x nb hx hnb => (a11 i x nb hx hnb).kept kL (by simp) (fun _ _ h => h), fun k t h => Nat.lt_of_lt_of_le (a12 k t h) kL.size⟩, KV.out.trans kL (fun _ _ h => h.elim), fun k h => .inl h, ?_, rowL.src⟩
            rintro r hr ⟨t, ht⟩
            have := frL r hr
            have := a12 r t ht
            omega
          clear rowL frL kL HC HMV KV
          obtain ⟨wo, rfl⟩ : ∃ wo : World, wo = wr := ⟨_, rfl⟩
          go_wp2
          go_loopw [48] (fun i wz => ∃ j : Nat, j ≤ L.length ∧ i = .int .i64 (j : Int) ∧ ∃ ow2, MMemN wz ow2 g nbs ((L.take j).foldl Mk.reach ⟨nodes, q⟩) ∧ Kept (Own ow1) wo wz ∧ (∀ k, Own ow2 k → Own ow1 k ∨ wo.heap.size ≤ k) ∧ (∀ r, rowBlk AL = some r → ¬ Own ow2 r) ∧ Src wz AL L.length L) (fun i _ => L.length - (intOf i).toNat)
          case atStart => exact ⟨0, Nat.zero_le _, rfl, HL0.out⟩
          case round =>
            obtain ⟨j, hj, rfl, ow2, hM2, k2, s2, nL, srcL⟩ := hrel
            have hb9 := HLB.out
            by_cases hjl : j < L.length
            · obtain ⟨rb, roff, y, hA, hrb, hy, e0⟩ := srcL.at_ hjl
              have hLj : L.take (j + 1) = L.take j ++ [y] := by
                obtain ⟨hjl, he⟩ := List.getElem?_eq_some_iff.1 hy
                rw [List.take_succ_eq_append_getElem hjl, he]
              have hqb2 : ((L.take j).foldl Mk.reach ⟨nodes, q⟩).queue.length ≤ 1000 := by
                have h1 := reaches_queue (L.take j) ⟨nodes, q⟩
                have h2 := HGK.out.few
                have h3 := HFK.out.1
                have h4 := HLB.out
                simp only [List.length_take, List.length_cons] at h1 h2 h3
                omega
              have hc := m_reachN ((Mk.same_reaches (L.take j) ⟨nodes, q⟩).asc HGK.out.asc) hM2 (HLI.out y (List.mem_of_getElem? hy)) hqb2
              have hstep : Mk.reach ((L.take j).foldl Mk.reach ⟨nodes, q⟩) y = (L.take (j + 1)).foldl Mk.reach ⟨nodes, q⟩ := by
                rw [hLj, List.foldl_append]
                rfl
              rw [hstep] at hc
              have HC := Lib.hid hc
              have K2 := Lib.hid k2
              have S2 := Lib.hid s2
              have NL := Lib.hid nL
              have SL := Lib.hid srcL
              subst hA
              have b0 : (0 : Int) ≤ (j : Int) := by omega
              have b2 : (j : Int) < (L.length : Int) := by omega
              clear hc hM2 k2 s2 nL srcL hLj hqb2 hstep hy
              go_wp2_with fail
              refine HC.out.mono ?_
              rintro e w2 ⟨rfl, ow3, hM3, k3, s3⟩
              have HN3 : Hid (∃ ow2, MMemN w2 ow2 g nbs ((L.take (j + 1)).foldl Mk.reach ⟨nodes, q⟩) ∧ Kept (Own ow1) wo w2 ∧ (∀ k, Own ow2 k → Own ow1 k ∨ wo.heap.size ≤ k) ∧ (∀ r, rowBlk (some ⟨rb, roff, none⟩) = some r → ¬ Own ow2 r) ∧ Src w2 (some ⟨rb, roff, none⟩) L.length L) := by
                refine ⟨ow3, hM3, K2.out.trans k3 (fun i hi hf => ?_), fun k hk => ?_, fun r hr hk => ?_, SL.out.kept k3 NL.out⟩
                · rcases S2.out i hf with h | h
                  · exact h
                  · omega
                · rcases s3 k hk with h | h
                  · exact S2.out k h
                  · exact .inr (Nat.le_trans K2.out.size h)
                · rcases s3 r hk with h | h
                  · exact NL.out r hr h
                  · simp [rowBlk] at hr; omega
              clear hM3 k3 s3 HC K2 S2 NL SL e0
              go_wp2
              go_roundw
              case rel => exact ⟨j + 1, by omega, by go_num, HN3.out⟩
              case measure => simp [intOf]; omega
            · rw [List.take_of_length_le (by omega)] at hM2
              obtain ⟨y, hy, hyi⟩ := (Mk.same_reaches L ⟨nodes, q⟩).at_ HX.out
              obtain ⟨hset, hnbo⟩ := mm_color ((Mk.same_reaches L ⟨nodes, q⟩).asc HGK.out.asc) hM2 hy HNB.out 2
              have hbn2 := (by obtain ⟨_, _, _, _, _, _, _, _, _, _, hn, _⟩ := hM2; exact hn i y nb hy HNB.out : NodeAt wr ow2 i nb y)
              obtain ⟨A1', c1'', A2', c2'', hbn3, _⟩ := hbn2
              have f0 := hbn3.cell 2
              have f1 := hbn3.frozen 2
              rw [hyi, HXI.out] at hset
              have HEND : Hid (MPost w ow g (m.steps (k + 1)) (wr.setCell ⟨nb, 2, none⟩ (.int .i64 2))) := by
                refine HS1.out _ ow2 ⟨nbs, ?_⟩ (k2.setCell (fun hlt => ?_) _) ?_
                · have : Mk.one ⟨nodes, id :: q⟩ = ⟨Mk.setCol (L.foldl Mk.reach ⟨nodes, q⟩).nodes id 2, (L.foldl Mk.reach ⟨nodes, q⟩).queue⟩ := by
                    unfold Mk.one
                    simp only
                    rw [HALL.out]
                  rw [this]
                  exact hset
                · rcases s2 nb ⟨_, hnbo⟩ with h | h
                  · exact h
                  · exact absurd hlt (Nat.not_lt.2 h)
                · intro j hj
                  exact s2 j hj
              clear hset hnbo hM2 k2 s2 nL srcL hy hyi hbn3 HS1
              go_wp2
              go_roundw
              case rel => exact ⟨k + 1, by omega, by go_num, HEND.out⟩
              case measure => simp [intOf]; omega
      · obtain rfl : k = T := by omega
        rw [HT.out] at hp
        have HP := Lib.hid hp
        obtain ⟨ow1, ⟨nbs, mb1, qA1, qc1, hl, o0, o1, o2, hb, hq, hm, hn, hlt2⟩, k1, s1⟩ := hp
        have d0 := hb.cell 0
        have d1 := hb.cell 1
        clear hl o0 o1 o2 hb hq hm hn hlt2 k1 s1
        go_wp2
        go_ret
        exact ⟨rfl, HP.out⟩

theorem m_step {w : World} {ow : Nat → Option Nat} {g : Nat} {m : Mk} (hG : m.Good) (hF : Few m) (h : MMem w ow g m) (n : Int) :
    Calls Try.prog 11 #[.pointer (some ⟨g, 0, none⟩), .int .i64 n] w fun e w' => e = .returned (.bool (((m.steps n.toNat).queue.length : Int) == 0)) ∧ MPost w ow g (m.steps n.toNat) w' := by
  by_cases hc : n ≤ 0 ∨ m.nodes.length = 0
  · exact m_step0 hG h n hc
  · have := m_step1 hG hF h n.toNat (by omega)
    rw [show ((n.toNat : Nat) : Int) = n by omega] at this
    exact this
end Go.Proofs.Ytalhldfcdfdoeaa
