/- What is proved here: the reference's Refs of an object makes a new slice of its references and those of its entries. Condition: the argument lies in memory as that object. -/
import Derived.Test.YtalhldfcdfdoeaaGraph
namespace Go.Proofs.Ytalhldfcdfdoeaa
open Go.RowKit

/-- An append at a step of a region that draws, by its run. -/
theorem step_append_eq {ops : Array Oper} {o : Oper} {a : Act} {w w' : World} {K : Act → World → Prop} {Q : Exit → Act → World → Prop} {E : Prop} (hgd : o.guard = none) (s x : Operand)
    (ho : o.op = .call { callee := .builtin .append, args := #[s, x], argTypes := #[23, 23] }) {vs vx v : Value} (hs : a.eval s = vs) (hx : a.eval x = vx)
    (hrun : (Builtin.append_ #[23, 23] o.type #[vs, vx]).run Try.prog w = .ok v w') (h : K (a.put o.dst v) w') : if Region.wanted o (yielded ops a.tmps) = true then Oper.wp Try.prog o a w K Q else E := by
  have hw : Region.wanted o (yielded ops a.tmps) = true := by simp [Region.wanted, hgd]
  rw [if_pos hw]
  unfold Oper.wp execOp
  simp only [ho, resolve, invoke, builtin, Sem.run_bind, Sem.run_pure, Result.andThen_ok, List.map_toArray, List.map_cons, List.map_nil, hs, hx, hrun]
  exact h

set_option maxHeartbeats 8000000 in
theorem refs_any (o : Ob) (w : World) (h : ObOk w o) :
    Calls Try.prog 18 #[.agg #[.int .i64 o.id, .int .i64 o.size, .int .i64 o.weak, .slice o.rA o.refs.length o.rc, .slice o.eA o.ents.length o.ec]] w fun e w' => ∃ v, e = .returned v ∧ W.Late w (o.refs ++ W.flatKV o.ents) v w' := by
  obtain ⟨oid, osz, owk, orA, orc, orefs, oeA, oec, oents⟩ := o
  simp only
  obtain ⟨hs, hnil, hE, hid, hrefs, hf1, hf2⟩ := h
  simp only at hs hnil hE hid hrefs hf1 hf2
  obtain ⟨rl, hrl⟩ : ∃ rl, rl = orefs.length := ⟨_, rfl⟩
  obtain ⟨el, hel⟩ : ∃ el, el = oents.length := ⟨_, rfl⟩
  rw [← hrl] at hs hnil hf1 ⊢
  rw [← hel] at hE hf2 ⊢
  obtain ⟨w0, hw0⟩ : ∃ w0, w0 = w.alloc (.cells #[.int .i64 oid, .int .i64 osz, .int .i64 owk, .slice orA rl orc, .slice oeA el oec] 39) := ⟨_, rfl⟩
  have kw0 : Kept (fun _ => False) w w0 := by rw [hw0]; exact (Kept.refl _ w).alloc _
  have hbx : Blk w0 w.heap.size 39 #[.int .i64 oid, .int .i64 osz, .int .i64 owk, .slice orA rl orc, .slice oeA el oec] := by rw [hw0]; exact Blk.new w 39 _
  have hsz : w0.heap.size = w.heap.size + 1 := by rw [hw0]; simp
  have hr : Row (w0.alloc (.cells #[] 3)) (some ⟨w0.heap.size, 0, none⟩) 0 0 [] := Row.new w0 [] (Nat.zero_le _)
  have hsr : Src (w0.alloc (.cells #[] 3)) orA rl orefs := hs.kept (kw0.alloc _) (fun _ _ h => h)
  rw [hsz, hw0] at hr
  rw [hw0] at hsr
  have R := Lib.hid hr
  have SR := Lib.hid hsr
  have HN := Lib.hid (fun e => (hnil e).1)
  have hb8 : (0 + rl) * 8 ≤ 140737488355328 := by omega
  have HE := Lib.hid hE
  have KW0 := Lib.hid kw0
  have HBX := Lib.hid hbx
  have HW0 := Lib.hid hw0
  have HRL := Lib.hid hrl
  have HEL := Lib.hid hel
  clear hs hnil hE hid hrefs hr hsr kw0 hbx hw0 hrl hel
  go_enter Try.func18, Try.ntmps18
  go_wp2_with (at_builtin; refine wpList_append_Row _ rfl _ _ rfl (some ⟨w.heap.size + 1, 0, none⟩) 0 0 [] rfl R.out orA rl orc orefs rfl SR.out HN.out hb8 ?_)
  intro A1 c1 w1 r1 r2 r3
  have k1 : Kept (fun _ => False) w0 w1 := by
    rw [← HW0.out] at r2
    exact ((Kept.refl _ w0).alloc _).grown r2 (fun k hk hlt => by simp [rowBlk] at hk; omega)
  have hbx1 := HBX.out.kept k1 (by simp)
  have R0 : Hid (W.Late w (orefs ++ W.flatKV (oents.take 0)) (.slice A1 (0 + rl) c1) w1 ∧ Blk w1 w.heap.size 39 #[.int .i64 oid, .int .i64 osz, .int .i64 owk, .slice orA rl orc, .slice oeA el oec] ∧ ∀ r, rowBlk A1 = some r → r ≠ w.heap.size) := by
    have e : (orefs ++ W.flatKV (oents.take 0)) = orefs := by simp [W.flatKV]
    have hfr : ∀ r, rowBlk A1 = some r → w.heap.size + 1 ≤ r := by
      intro r hr
      rcases r3 with h | ⟨r', h, hr'⟩
      · rw [h] at hr; simp [rowBlk] at hr; omega
      · rw [h] at hr; injection hr with hr; omega
    refine ⟨⟨A1, c1, ?_, ?_, fun r hr => by have := hfr r hr; omega, KW0.out.trans k1 (fun _ _ h => h)⟩, hbx1, fun r hr => by have := hfr r hr; omega⟩
    · rw [e, ← HRL.out, Nat.zero_add]
    · rw [e, ← HRL.out]
      simpa using r1
  clear r1 r2 r3 k1 hbx1 R SR HN HW0 HBX KW0
  go_wp2
  go_loopw [3, 4] (fun v i wr => ∃ k : Nat, k ≤ el ∧ i = .int .i64 (k : Int) ∧ ∃ A c, v = .slice A (orefs ++ W.flatKV (oents.take k)).length c ∧ W.Late w (orefs ++ W.flatKV (oents.take k)) v wr ∧ Blk wr w.heap.size 39 #[.int .i64 oid, .int .i64 osz, .int .i64 owk, .slice orA rl orc, .slice oeA el oec] ∧ ∀ r, rowBlk A = some r → r ≠ w.heap.size) (fun _ i _ => el - (intOf i).toNat)
  case atStart =>
    obtain ⟨h1, h2, h3⟩ := R0.out
    refine ⟨0, Nat.zero_le _, rfl, A1, c1, ?_, ?_, h2, h3⟩
    · have := HRL.out; simp [W.flatKV]; omega
    · simpa using h1
  case round =>
    obtain ⟨k, hk, rfl, A, c, rfl, hL, hbx, hne⟩ := hrel
    obtain ⟨A', c', hv, row, fr, kk⟩ := hL
    injection hv with hv1 hv2 hv3
    subst hv1 hv3
    have e4 := hbx.cell 4
    by_cases hlt : k < el
    · have hlen := HE.out.len
      obtain ⟨b, off, hA, hbl, hcells⟩ := HE.out.at_ (by omega)
      obtain ⟨d0, d1⟩ := hcells k _ (List.getElem?_eq_getElem (by omega))
      have e0 := (kk.cell (p := ⟨b, off + k * 2, none⟩) hbl (by simp)).trans d0
      have e1 := (kk.cell (p := ⟨b, off + k * 2 + 1, none⟩) hbl (by simp)).trans d1
      have HT := Lib.hid (W.flatKV_snoc oents k (by omega))
      have hl : (W.flatKV (oents.take k)).length = k * 2 := by rw [W.flatKV_length, List.length_take]; omega
      generalize oents[k]'(by omega) = p at *
      obtain ⟨p1, p2⟩ := p
      simp only at e0 e1 HT
      have hpl : (orefs ++ W.flatKV (oents.take k)).length ≤ 400 := by rw [List.length_append, hl, ← HRL.out]; omega
      have HT2 : Hid (orefs ++ W.flatKV (oents.take (k + 1)) = (orefs ++ W.flatKV (oents.take k)) ++ [p1, p2]) := by
        show _ = _
        rw [HT.out, List.append_assoc]
      generalize orefs ++ W.flatKV (oents.take k) = pre at *
      subst hA
      have b0 : (0 : Int) ≤ (k : Int) := by omega
      have b1 : (k : Int) < (el : Int) := by omega
      have hbw : b < wr.heap.size := Nat.lt_of_lt_of_le hbl kk.size
      obtain ⟨V, hV⟩ : ∃ V, V = (wr.alloc (.cells #[.int .i64 p1, .int .i64 p2] 3)).drew := ⟨_, rfl⟩
      have kV : Kept (fun _ => False) wr V := by rw [hV]; exact ((Kept.refl _ wr).alloc _).drew
      have hsV : Src V (some ⟨wr.heap.size, 0, none⟩) 2 [p1, p2] := by rw [hV]; exact (Row.new wr [p1, p2] (by show 2 ≤ maxLen; decide)).src.kept ((Kept.refl (fun _ => False) _).drew) (fun _ _ h => h)
      obtain ⟨A2, c2, w2, hrun, q1, q2, q3⟩ := run_append_Row V 23 (c2 := 2) (row.kept kV (by simp)) hsV (by simp) (by omega)
      have kg : Kept (fun k => rowBlk A = some k) wr w2 := (kV.mono (fun _ _ h => h.elim)).grown q2 (fun k hk _ => hk)
      have hbl2 : w.heap.size < wr.heap.size := hbx.lt
      have HNEW : Hid (∃ A c, (.slice A2 (pre.length + 2) c2 : Value) = .slice A (pre ++ [p1, p2]).length c ∧ W.Late w (pre ++ [p1, p2]) (.slice A2 (pre.length + 2) c2) w2 ∧ Blk w2 w.heap.size 39 #[.int .i64 oid, .int .i64 osz, .int .i64 owk, .slice orA rl orc, .slice (some ⟨b, off, none⟩) el oec] ∧ ∀ r, rowBlk A = some r → r ≠ w.heap.size) := by
        have e : (pre ++ [p1, p2]).length = pre.length + 2 := by simp
        have hA2 : ∀ r, rowBlk A2 = some r → w.heap.size ≤ r ∧ r ≠ w.heap.size := by
          intro r hr
          rcases q3 with h | ⟨r', h, hr'⟩
          · rw [h] at hr; exact ⟨fr r hr, hne r hr⟩
          · rw [h] at hr; injection hr with hr; have := kV.size; omega
        exact ⟨A2, c2, by rw [e], ⟨A2, c2, by rw [e], by rw [e]; exact q1, fun r hr => (hA2 r hr).1, kk.trans kg (fun i hi hA => by have := fr i hA; omega)⟩, hbx.kept kg (fun hA => hne _ hA rfl), fun r hr => (hA2 r hr).2⟩
      have hcc : ∀ n, (wr.drew).cell? ⟨w.heap.size, 4, none⟩ = some (.slice (some ⟨b, off, none⟩) el oec) ∧ (wr.drew).cell? ⟨b, off + k * 2, none⟩ = some (.int .i64 p1) ∧ (wr.drew).cell? ⟨b, off + k * 2 + 1, none⟩ = some (.int .i64 p2) := fun (_ : Nat) => ⟨e4, e0, e1⟩
      have hca : V.cell? ⟨w.heap.size, 4, none⟩ = some (.slice (some ⟨b, off, none⟩) el oec) ∧ V.cell? ⟨b, off + k * 2, none⟩ = some (.int .i64 p1) ∧ V.cell? ⟨b, off + k * 2 + 1, none⟩ = some (.int .i64 p2) :=
        ⟨(kV.cell (p := ⟨w.heap.size, 4, none⟩) hbl2 (by simp)).trans e4, (kV.cell (p := ⟨b, off + k * 2, none⟩) hbw (by simp)).trans e0, (kV.cell (p := ⟨b, off + k * 2 + 1, none⟩) hbw (by simp)).trans e1⟩
      have hbA : rowBlk A ≠ some b := fun h => by have := fr b h; omega
      have hcd : w2.cell? ⟨w.heap.size, 4, none⟩ = some (.slice (some ⟨b, off, none⟩) el oec) ∧ w2.cell? ⟨b, off + k * 2, none⟩ = some (.int .i64 p1) ∧ w2.cell? ⟨b, off + k * 2 + 1, none⟩ = some (.int .i64 p2) :=
        ⟨(kg.cell (p := ⟨w.heap.size, 4, none⟩) hbl2 (fun h => hne _ h rfl)).trans e4, (kg.cell (p := ⟨b, off + k * 2, none⟩) hbw hbA).trans e0, (kg.cell (p := ⟨b, off + k * 2 + 1, none⟩) hbw hbA).trans e1⟩
      rw [hV] at hrun hca
      clear kk hcells d0 d1 hlen hl row fr hsV kV kg q1 q2 q3 hV HE HT hbx R0 hbA
      go_wp2_with fail
      go_region_held3 (fun w' => w'.cell? ⟨w.heap.size, 4, none⟩ = some (.slice (some ⟨b, off, none⟩) el oec) ∧ w'.cell? ⟨b, off + k * 2, none⟩ = some (.int .i64 p1) ∧ w'.cell? ⟨b, off + k * 2 + 1, none⟩ = some (.int .i64 p2)) (first | exact hcc 0 | exact hca | exact hcd | go_keep) ((refine step_append_eq (vs := .slice A pre.length c) (vx := .slice (some ⟨wr.heap.size, 0, none⟩) 2 2) (v := .slice A2 (pre.length + 2) c2) (w' := w2) (by rfl) (.tmp 16) (.tmp 29) (by rfl) (by rfl) (by rfl) hrun ?_))
      clear hcc hca hcd hrun e0 e1 e4
      go_wp2
      go_roundw
      case rel => exact ⟨k + 1, by omega, by go_num, by rw [HT2.out]; exact HNEW.out⟩
      case measure => simp [intOf]; omega
    · obtain rfl : k = el := by omega
      have HN : Hid (W.Late w (orefs ++ W.flatKV oents) (.slice A (orefs ++ W.flatKV (oents.take k)).length c) wr) := by
        rw [List.take_of_length_le (by rw [HE.out.len]; exact Nat.le_refl _)] at row ⊢
        exact ⟨A, c, rfl, row, fr, kk⟩
      generalize (orefs ++ W.flatKV (oents.take k)).length = ln at *
      clear row fr kk hlt
      go_wp2
      go_ret
      exact ⟨_, rfl, HN.out⟩
end Go.Proofs.Ytalhldfcdfdoeaa
