/- What is proved here: what Write and Root do to a marker in memory. Condition: the marker lies in memory and is well formed. -/
import Derived.Test.YtalhldfcdfdoeaaUse
import Derived.Test.YtalhldfcdfdoeaaWPlain
namespace Go.Proofs.Ytalhldfcdfdoeaa
open Go.RowKit

theorem addRef_get (l : List Nd) (f t : Int) (i : Nat) : (Mk.addRef l f t)[i]? = (l[i]?).map fun x => if x.id = f then { x with refs := x.refs ++ [t] } else x := by
  unfold Mk.addRef
  rw [List.getElem?_map]

section
variable {w : World} {ow : Nat → Option Nat} {g : Nat} {m : Mk} {nbs : List Nat}

/-- A reference appended to an object's own, and stored. -/
theorem mm_refs (ha : m.nodes.Pairwise fun x y => x.id < y.id) (h : MMemN w ow g nbs m) {i nb : Nat} {x : Nd} (hx : m.nodes[i]? = some x) (hnb : nbs[i]? = some nb) (t : Int) {A1 : Option Addr} {c1 : Nat}
    (hc : w.cell? ⟨nb, 0, none⟩ = some (.slice A1 x.refs.length c1)) {w1 : World} {A1' : Option Addr} {c1' : Nat} (k1 : Kept (fun k => rowBlk A1 = some k) w w1) (row1 : Row w1 A1' (x.refs.length + 1) c1' (x.refs ++ [t]))
    (hat : rowBlk A1' = rowBlk A1 ∨ ∃ r, rowBlk A1' = some r ∧ w.heap.size ≤ r) : MPostN w ow g nbs ⟨Mk.addRef m.nodes x.id t, m.queue⟩ (w1.setCell ⟨nb, 0, none⟩ (.slice A1' (x.refs.length + 1) c1')) := by
  obtain ⟨mb, qA, qc, hl, o0, o1, o2, hb, hq, hm, hn, hlt⟩ := h
  obtain ⟨B1, d1, A2, c2, hbn, hr1, hr2, p0, p1, p2⟩ := hn i x nb hx hnb
  have he : Value.slice B1 x.refs.length d1 = Value.slice A1 x.refs.length c1 := by
    have := hbn.cell 0
    rw [hc] at this
    simpa using this.symm
  injection he with e1 _ e3
  subst e1
  subst e3
  have hnl := hlt _ _ p0
  have hA1n : rowBlk B1 ≠ some nb := fun e => by have := p1 _ e; rw [p0] at this; injection this; omega
  have hA1'n : rowBlk A1' ≠ some nb := by
    rcases hat with h | ⟨r, h, hr⟩
    · rw [h]; exact hA1n
    · rw [h]; intro e; injection e with e; omega
  have kset : Kept (fun k => k = nb) w1 (w1.setCell ⟨nb, 0, none⟩ (.slice A1' (x.refs.length + 1) c1')) := (Kept.refl (fun k => k = nb) w1).setCell (fun _ => rfl) _
  have hk : Kept (Own ow) w (w1.setCell ⟨nb, 0, none⟩ (.slice A1' (x.refs.length + 1) c1')) :=
    (k1.mono (G := Own ow) (fun k _ hf => ⟨_, p1 k hf⟩)).setCell (fun _ => ⟨_, p0⟩) _
  have hle : ∀ k t, ow k = some t → (fun k => if rowBlk A1' = some k then some (4 + 3 * i) else ow k) k = some t := by
    intro k t ht
    simp only
    split
    · rename_i hk'
      rcases hat with h | ⟨r, h, hr⟩
      · rw [hk'] at h
        rw [p1 k h.symm] at ht
        exact ht
      · rw [hk'] at h
        injection h with h
        have := hlt k t ht
        omega
    · exact ht
  have hne : ∀ k t, ow k = some t → t ≠ 3 + 3 * i → k ≠ nb := by
    rintro k t ht h1 rfl
    rw [p0] at ht
    injection ht with ht
    exact h1 ht.symm
  have hne1 : ∀ k t, ow k = some t → t ≠ 4 + 3 * i → ¬ rowBlk B1 = some k := by
    intro k t ht h1 e
    rw [p1 k e] at ht
    injection ht with ht
    exact h1 ht.symm
  refine ⟨fun k => if rowBlk A1' = some k then some (4 + 3 * i) else ow k, ⟨mb, qA, qc, by simpa [Mk.addRef] using hl, hle _ _ o0, hle _ _ o1, fun r hr => hle _ _ (o2 r hr), ?_, ?_, ?_, ?_, ?_⟩, hk, ?_⟩
  · exact (hb.kept k1 (hne1 _ _ o0 (by omega))).kept kset (hne _ _ o0 (by omega))
  · exact (hq.kept k1 (fun r hr => hne1 _ _ (o2 r hr) (by omega))).kept kset (fun r hr => hne _ _ (o2 r hr) (by omega))
  · simp only
    rw [Mk.addRef_ids]
    exact (hm.kept k1 (hne1 _ _ o1 (by omega))).kept kset (hne _ _ o1 (by omega))
  · intro j y nb' hy hnb'
    simp only at hy
    rw [addRef_get, Option.map_eq_some_iff] at hy
    obtain ⟨y0, hy0, rfl⟩ := hy
    by_cases hj : y0.id = x.id
    · have hij : i = j := asc_index ha hx hy0 hj.symm
      subst hij
      rw [hx] at hy0
      injection hy0 with hy0
      subst hy0
      rw [hnb] at hnb'
      injection hnb' with hnb'
      subst hnb'
      rw [if_pos hj]
      refine ⟨A1', c1', A2, c2, ?_, ?_, ?_, hle _ _ p0, fun r hr => by simp [hr], fun r hr => hle _ _ (p2 r hr)⟩
      · have := (hbn.kept k1 hA1n).set_ 0 (.slice A1' (x.refs.length + 1) c1')
        simpa using this
      · have := row1.kept kset (fun r hr e => hA1'n (by rw [hr, e]))
        simpa using this
      · exact (hr2.kept k1 (fun r hr => hne1 _ _ (p2 r hr) (by omega))).kept kset (fun r hr => hne _ _ (p2 r hr) (by omega))
    · rw [if_neg hj]
      have hij : i ≠ j := by
        rintro rfl
        rw [hx] at hy0
        injection hy0 with hy0
        subst hy0
        exact hj rfl
      refine ((hn j y0 nb' hy0 hnb').kept k1 (ow' := ow) ?_ (fun _ _ h => h)).kept kset ?_ hle
      · intro k t e ht
        rw [p1 _ e] at ht; injection ht with ht; omega
      · rintro k t e ht
        rw [e, p0] at ht; injection ht with ht; omega
  · intro k t ht
    simp only at ht
    have hsz : (w1.setCell ⟨nb, 0, none⟩ (.slice A1' (x.refs.length + 1) c1')).heap.size = w1.heap.size := by simp [World.setCell]
    rw [hsz]
    split at ht
    · rename_i hk'
      exact row1.blk_lt hk'
    · exact Nat.lt_of_lt_of_le (hlt k t ht) k1.size
  · rintro k ⟨t, ht⟩
    simp only at ht
    split at ht
    · rename_i hk'
      rcases hat with h | ⟨r, h, hr⟩
      · rw [hk'] at h
        exact .inl ⟨_, p1 k h.symm⟩
      · rw [hk'] at h
        injection h with h
        exact .inr (by omega)
    · exact .inl ⟨t, ht⟩

theorem MPostN.comp {w w1 w2 : World} {ow ow1 : Nat → Option Nat} {g : Nat} {nbs : List Nat} {m : Mk} (k1 : Kept (Own ow) w w1) (s1 : ∀ k, Own ow1 k → Own ow k ∨ w.heap.size ≤ k) (h : MPostN w1 ow1 g nbs m w2) : MPostN w ow g nbs m w2 := by
  obtain ⟨ow2, m2, k2, s2⟩ := h
  refine ⟨ow2, m2, k1.trans k2 (fun i hi hf => ?_), fun k hk => ?_⟩
  · rcases s1 i hf with h | h
    · exact h
    · omega
  · rcases s2 k hk with h | h
    · exact s1 k h
    · exact .inr (Nat.le_trans k1.size h)

theorem look_any (hG : m.Good) (h : MMemN w ow g nbs m) {mb : Nat} {s : Value} (hb : Blk w g 55 #[.map (some mb), s]) {id : Int} (hw : I64 id) :
    (Mk.colOf m.nodes id = none → (Instr.lookup 53 (.map (some mb)) (.int .i64 id) true).run Try.prog w = .ok (.tuple #[.pointer none, .bool false]) w) ∧
    ∀ (i : Nat) (x : Nd) (nb : Nat), m.nodes[i]? = some x → nbs[i]? = some nb → x.id = id → (Instr.lookup 53 (.map (some mb)) (.int .i64 id) true).run Try.prog w = .ok (.tuple #[.pointer (some ⟨nb, 0, none⟩), .bool true]) w := by
  obtain ⟨mb', qA, qc, hl, o0, o1, o2, hb', hq, hm, hn, hlt⟩ := h
  have : mb' = mb := by
    have h1 := hb'.cell 0
    have h2 := hb.cell 0
    rw [h1] at h2
    simpa using h2
  subst this
  refine ⟨fun hc => hm.look_none (zip_none hc) hw, fun i x nb hx hnb e => ?_⟩
  have hmem := zip_mem hx hnb
  rw [e] at hmem
  exact (hm.look_some (zip_apart hG.asc nbs) hmem hw).1

set_option maxHeartbeats 400000 in
theorem m_write_bad (hG : m.Good) (h : MMem w ow g m) {f t : Int} (hf : I64 f) (ht : I64 t) (hc : Mk.colOf m.nodes f = none ∨ Mk.colOf m.nodes t = none) :
    Calls Try.prog 19 #[.pointer (some ⟨g, 0, none⟩), .int .i64 f, .int .i64 t] w fun e w' => e = .returned (.int .i64 2) ∧ w = w' := by
  obtain ⟨nbs, h⟩ := h
  have hh := h
  obtain ⟨mb, qA, qc, hl, o0, o1, o2, hb, hq, hm, hn, hlt⟩ := hh
  obtain ⟨f1, f2⟩ := look_any hG h hb hf
  obtain ⟨t1, t2⟩ := look_any hG h hb ht
  have c0 := hb.cell 0
  simp at c0
  have look2 : ∀ id, (Mk.colOf m.nodes id ≠ none) → ∃ (i : Nat) (x : Nd) (nb : Nat), m.nodes[i]? = some x ∧ nbs[i]? = some nb ∧ x.id = id := by
    intro id hid
    cases hc' : Mk.colOf m.nodes id with
    | none => exact absurd hc' hid
    | some c =>
      obtain ⟨i, x, hx, e1, e2⟩ := find_index hc'
      have hi : i < nbs.length := by rw [hl]; exact (List.getElem?_eq_some_iff.1 hx).1
      exact ⟨i, x, nbs[i], hx, List.getElem?_eq_getElem hi, e1⟩
  by_cases hfn : Mk.colOf m.nodes f = none
  · have lf := f1 hfn
    by_cases htn : Mk.colOf m.nodes t = none
    · have lt := t1 htn
      clear f1 f2 t1 t2 hc look2 h hb hq hm hn hlt hl o0 o1 o2 hfn htn
      go_enter Try.func19, Try.ntmps19
      go_wp2
      go_ret
      exact ⟨rfl, rfl⟩
    · obtain ⟨i, x, nb, hx, hnb, e⟩ := look2 t htn
      have lt := t2 i x nb hx hnb e
      clear f1 f2 t1 t2 hc look2 h hb hq hm hn hlt hl o0 o1 o2 hfn htn hx hnb e
      go_enter Try.func19, Try.ntmps19
      go_wp2
      go_ret
      exact ⟨rfl, rfl⟩
  · have htn : Mk.colOf m.nodes t = none := hc.resolve_left hfn
    have lt := t1 htn
    obtain ⟨i, x, nb, hx, hnb, e⟩ := look2 f hfn
    have lf := f2 i x nb hx hnb e
    clear f1 f2 t1 t2 hc look2 h hb hq hm hn hlt hl o0 o1 o2 hfn htn hx hnb e
    go_enter Try.func19, Try.ntmps19
    go_wp2
    go_ret
    exact ⟨rfl, rfl⟩

set_option maxHeartbeats 1000000 in
theorem m_write_ok (hG : m.Good) (h : MMem w ow g m) {f t : Int} (hf : I64 f) (ht : I64 t) (hcf : Mk.colOf m.nodes f ≠ none) (hct : Mk.colOf m.nodes t ≠ none) (hqb : m.queue.length ≤ 1000) (hrb : (Mk.allOf m.nodes f).length ≤ 800) :
    Calls Try.prog 19 #[.pointer (some ⟨g, 0, none⟩), .int .i64 f, .int .i64 t] w fun e w' => e = .returned (.int .i64 0) ∧ MPost w ow g (m.write f t) w' := by
  obtain ⟨nbs, h⟩ := h
  have hh := h
  obtain ⟨mb, qA, qc, hl, o0, o1, o2, hb, hq, hm, hn, hlt⟩ := hh
  obtain ⟨_, f2⟩ := look_any hG h hb hf
  obtain ⟨_, t2⟩ := look_any hG h hb ht
  have c0 := hb.cell 0
  simp at c0
  have look2 : ∀ id, (Mk.colOf m.nodes id ≠ none) → ∃ (i : Nat) (x : Nd) (nb : Nat), m.nodes[i]? = some x ∧ nbs[i]? = some nb ∧ x.id = id ∧ Mk.colOf m.nodes id = some x.col := by
    intro id hid
    cases hc' : Mk.colOf m.nodes id with
    | none => exact absurd hc' hid
    | some c =>
      obtain ⟨i, x, hx, e1, e2⟩ := find_index hc'
      have hi : i < nbs.length := by rw [hl]; exact (List.getElem?_eq_some_iff.1 hx).1
      exact ⟨i, x, nbs[i], hx, List.getElem?_eq_getElem hi, e1, by rw [e2]⟩
  obtain ⟨i, x, nb, hx, hnb, e, hcol⟩ := look2 f hcf
  obtain ⟨it, xt, nbt, hxt, hnbt, et, _⟩ := look2 t hct
  have lf := f2 i x nb hx hnb e
  have lt := t2 it xt nbt hxt hnbt et
  obtain ⟨A1, c1, A2, c2, hbn, hr1, hr2, p0, p1, p2⟩ := hn i x nb hx hnb
  have d0 := hbn.cell 0
  have d2 := hbn.cell 2
  simp at d0 d2
  have hnf := hbn.frozen 0
  have hnl := hlt _ _ p0
  have hrl : x.refs.length ≤ 800 := by
    have : Mk.allOf m.nodes f = x.refs ++ x.ents := by rw [← e]; exact allOf_index hG.asc hx
    rw [this, List.length_append] at hrb
    omega
  have hA1n : rowBlk A1 ≠ some nb := fun e => by have := p1 _ e; rw [p0] at this; injection this; omega
  have HH := Lib.hid h
  have HD0 := Lib.hid d0
  have HX := Lib.hid hx
  have HNB := Lib.hid hnb
  have HE := Lib.hid e
  have HCOL := Lib.hid hcol
  have HR1 : Hid (Row (w.alloc (.cells #[.int .i64 t] 3)) A1 x.refs.length c1 x.refs) := hr1.kept ((Kept.refl (fun _ => False) w).alloc _) (by simp)
  have HS : Hid (Src (w.alloc (.cells #[.int .i64 t] 3)) (some ⟨w.heap.size, 0, none⟩) 1 [t]) := (Row.new w [t] (by show 1 ≤ maxLen; decide)).src
  have HBN := Lib.hid hbn
  have HHT := Lib.hid ht
  have HHG := Lib.hid hG
  clear f2 t2 look2 hcf hct hrb h hb hq hm hn hlt hl o0 o1 o2 hxt hnbt et hr1 hr2 p0 p1 p2 hbn hx hnb e hcol hG ht hf
  obtain ⟨rl, hrl'⟩ : ∃ rl, rl = x.refs.length := ⟨_, rfl⟩
  have HRL := Lib.hid hrl'
  rw [← hrl'] at d0 hrl
  clear hrl'
  have hb8 : (rl + 1) * 8 ≤ 140737488355328 := by omega
  go_enter Try.func19, Try.ntmps19
  go_wp2_with (at_builtin; refine wpList_append_Row _ rfl _ _ rfl A1 rl c1 x.refs rfl (by rw [HRL.out]; exact HR1.out) (some ⟨w.heap.size, 0, none⟩) 1 1 [t] rfl HS.out (by simp) hb8 ?_)
  intro A1' c1' w1 r1 r2 r3
  have k1 : Kept (fun k => rowBlk A1 = some k) w w1 := ((Kept.refl _ w).alloc _).grown r2 (fun k hk _ => hk)
  have hP : MPostN w ow g nbs ⟨Mk.addRef m.nodes f t, m.queue⟩ (w1.setCell ⟨nb, 0, none⟩ (.slice A1' (rl + 1) c1')) := by
    have := mm_refs HHG.out.asc HH.out HX.out HNB.out t HD0.out k1 (by rw [← HRL.out]; exact r1) (by
      rcases r3 with h | ⟨r, h, hr⟩
      · exact .inl h
      · exact .inr ⟨r, h, by first | omega | (simp at hr; omega)⟩)
    rw [HE.out, ← HRL.out] at this
    exact this
  have hbn1 : Blk w1 nb 59 #[.slice A1 x.refs.length c1, .slice A2 x.ents.length c2, .int .i64 (x.col : Int)] := HBN.out.kept k1 hA1n
  have e0 := hbn1.cell 0
  simp at e0
  have ef := hbn1.frozen 0
  have hnl1 := hbn1.lt
  have hbn2 := hbn1.set_ 0 (.slice A1' (rl + 1) c1')
  have e2 := hbn2.cell 2
  simp at e2
  have HP := Lib.hid hP
  clear r1 r2 r3 k1 hP hbn1 hbn2 HR1 HS HH HD0 HX HNB HE HBN HRL d0 d2 lf lt c0 hnf
  go_upto_region 8 with (fail)
  obtain ⟨W2, hW2⟩ : ∃ W2, W2 = w1.setCell ⟨nb, 0, none⟩ (.slice A1' (rl + 1) c1') := ⟨_, rfl⟩
  rw [← hW2]
  rw [← hW2] at e2 HP
  clear hW2 e0 ef hnl1
  by_cases hcc : x.col = 2
  · rw [hcc] at e2
    have HC : Hid (Calls Try.prog 26 #[.pointer (some ⟨g, 0, none⟩), .int .i64 t] W2 fun e w' => e = .returned (.tuple #[]) ∧ MPostN w ow g nbs (m.write f t) w') := by
      obtain ⟨ow1, m1, k1, s1⟩ := HP.out
      refine (m_reachN (Mk.addRef_asc f t HHG.out.asc) m1 HHT.out hqb).mono ?_
      rintro e w' ⟨rfl, hp⟩
      refine ⟨rfl, ?_⟩
      have : m.write f t = (⟨Mk.addRef m.nodes f t, m.queue⟩ : Mk).reach t := by
        unfold Mk.write
        rw [if_pos (by rw [HCOL.out, hcc])]
      rw [this]
      exact MPostN.comp k1 s1 hp
    go_wp2_with fail
    refine HC.out.mono ?_
    rintro e w' ⟨rfl, hp⟩
    have HP2 := Lib.hid hp
    clear hp
    go_wp2
    go_ret
    exact ⟨rfl, HP2.out.out⟩
  · have hcb : ((x.col : Int) == 2) = false := by simp; omega
    go_wp2
    go_ret
    refine ⟨rfl, ?_⟩
    have : m.write f t = (⟨Mk.addRef m.nodes f t, m.queue⟩ : Mk) := by
      unfold Mk.write
      rw [if_neg (by rw [HCOL.out]; simpa using hcc)]
    rw [this]
    exact HP.out.out

set_option maxHeartbeats 400000 in
theorem m_root_bad (hG : m.Good) (h : MMem w ow g m) {id : Int} (hi : I64 id) (hc : Mk.colOf m.nodes id = none) :
    Calls Try.prog 20 #[.pointer (some ⟨g, 0, none⟩), .int .i64 id] w fun e w' => e = .returned (.int .i64 2) ∧ w = w' := by
  obtain ⟨nbs, h⟩ := h
  have hh := h
  obtain ⟨mb, qA, qc, hl, o0, o1, o2, hb, hq, hm, hn, hlt⟩ := hh
  have lf := (look_any hG h hb hi).1 hc
  have c0 := hb.cell 0
  simp at c0
  clear hc h hb hq hm hn hlt hl o0 o1 o2
  go_enter Try.func20, Try.ntmps20
  go_wp2
  go_ret
  exact ⟨rfl, rfl⟩

set_option maxHeartbeats 400000 in
theorem m_root_ok (hG : m.Good) (h : MMem w ow g m) {id : Int} (hi : I64 id) (hc : Mk.colOf m.nodes id ≠ none) (hqb : m.queue.length ≤ 1000) :
    Calls Try.prog 20 #[.pointer (some ⟨g, 0, none⟩), .int .i64 id] w fun e w' => e = .returned (.int .i64 0) ∧ MPost w ow g (m.reach id) w' := by
  have HC := Lib.hid (m_reach hG h hi hqb)
  obtain ⟨nbs, h⟩ := h
  have hh := h
  obtain ⟨mb, qA, qc, hl, o0, o1, o2, hb, hq, hm, hn, hlt⟩ := hh
  have lf : ∃ nb, (Instr.lookup 53 (.map (some mb)) (.int .i64 id) true).run Try.prog w = .ok (.tuple #[.pointer (some ⟨nb, 0, none⟩), .bool true]) w := by
    cases hc' : Mk.colOf m.nodes id with
    | none => exact absurd hc' hc
    | some c =>
      obtain ⟨i, x, hx, e1, e2⟩ := find_index hc'
      have hi' : i < nbs.length := by rw [hl]; exact (List.getElem?_eq_some_iff.1 hx).1
      exact ⟨nbs[i], (look_any hG h hb hi).2 i x _ hx (List.getElem?_eq_getElem hi') e1⟩
  obtain ⟨nb, lf⟩ := lf
  have c0 := hb.cell 0
  simp at c0
  clear hc h hb hq hm hn hlt hl o0 o1 o2
  go_enter Try.func20, Try.ntmps20
  go_wp2_with fail
  refine HC.out.mono ?_
  rintro e w' ⟨rfl, hp⟩
  have HP := Lib.hid hp
  clear hp
  go_wp2
  go_ret
  exact ⟨rfl, HP.out⟩

end
end Go.Proofs.Ytalhldfcdfdoeaa
