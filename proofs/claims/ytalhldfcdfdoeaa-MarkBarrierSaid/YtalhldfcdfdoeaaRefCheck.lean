/- What is proved here: the reference's Check of a graph says the same as Check. Condition: the argument lies in memory as that graph. -/
import Derived.Test.YtalhldfcdfdoeaaNew
namespace Go.Proofs.Ytalhldfcdfdoeaa
open Go.RowKit

theorem lastId_nonneg {os : List Ob} (k : Nat) (h : chk 0 (os.take k) = true) : 0 ≤ lastId 0 (os.take k) := by
  unfold lastId
  cases hl : (os.take k).getLast? with
  | none => simp
  | some o =>
    have := (chk_asc 0 _ h).1 o (List.mem_of_getLast? hl)
    simp
    omega
theorem lastId_prev {os : List Ob} (k : Nat) (hk : 0 < k) (h : k ≤ os.length) : lastId 0 (os.take k) = (os[k - 1]'(by omega)).id := by
  have := lastId_snoc os (k - 1) (by omega)
  rw [show k - 1 + 1 = k by omega] at this
  exact this

set_option maxHeartbeats 8000000 in
theorem rcheck_any (oA rA : Option Addr) (on oc rn rc : Nat) (os : List Ob) (w : World) (h : Objs w oA on os) (hn : on ≤ 1000) :
    Calls Try.prog 22 #[.agg #[.slice oA on oc, .slice rA rn rc]] w fun e w' => e = .returned (.int .i64 (chkE os)) ∧ Kept (fun _ => False) w w' := by
  have H := Lib.hid h
  clear h
  go_enter Try.func22, Try.ntmps22
  go_wp2
  go_loopw [3] (fun i wr => ∃ k : Nat, k ≤ on ∧ i = .int .i64 (k : Int) ∧ chk 0 (os.take k) = true ∧ Kept (fun _ => False) w wr ∧ wr.cell? ⟨w.heap.size, 0, none⟩ = some (.slice oA on oc) ∧ w.heap.size < wr.heap.size) (fun i _ => on - (intOf i).toNat)
  case atStart => exact ⟨0, Nat.zero_le _, rfl, rfl, (Kept.refl _ w).alloc _, (Blk.new w 25 _).cell 0, by simp⟩
  case round =>
    obtain ⟨k, hk, rfl, hck, kk, hbx, hsz⟩ := hrel
    by_cases hlt : k < on
    · obtain ⟨b, off, hA, hbl, hcells⟩ := H.out.at_ (by omega)
      have hlen := H.out.len
      obtain ⟨d0, d1, d2, d3, d4⟩ := hcells k _ (List.getElem?_eq_getElem (by omega))
      have e0 := (kk.cell (p := ⟨b, off + k * 5, none⟩) hbl (by simp)).trans d0
      have e1 := (kk.cell (p := ⟨b, off + k * 5 + 1, none⟩) hbl (by simp)).trans d1
      have e2 := (kk.cell (p := ⟨b, off + k * 5 + 2, none⟩) hbl (by simp)).trans d2
      have e3 := (kk.cell (p := ⟨b, off + k * 5 + 3, none⟩) hbl (by simp)).trans d3
      have e4 := (kk.cell (p := ⟨b, off + k * 5 + 4, none⟩) hbl (by simp)).trans d4
      have hnn := lastId_nonneg k hck
      have hpv : k = 0 ∧ lastId 0 (os.take k) = 0 ∨ decide (0 < k) = true ∧ wr.cell? ⟨b, off + (k - 1) * 5, none⟩ = some (.int .i64 (lastId 0 (os.take k))) := by
        rcases Nat.eq_zero_or_pos k with h0 | h0
        · subst h0; exact .inl ⟨rfl, rfl⟩
        · have hp := (hcells (k - 1) _ (List.getElem?_eq_getElem (by omega))).1
          rw [← lastId_prev k h0 (by omega)] at hp
          exact .inr ⟨by simp [h0], (kk.cell (p := ⟨b, off + (k - 1) * 5, none⟩) hbl (by simp)).trans hp⟩
      have HS := Lib.hid (chk_snoc os k (by omega))
      have HCK := Lib.hid hck
      generalize os[k]'(by omega) = o at *
      generalize lastId 0 (os.take k) = l at *
      obtain ⟨oid, osz, owk, orA, orc, orefs, oeA, oec, oents⟩ := o
      simp only at e0 e1 e2 e3 e4
      generalize orefs.length = rl at *
      generalize oents.length = el at *
      subst hA
      have b0 : (0 : Int) ≤ (k : Int) := by omega
      have b1 : (k : Int) < (on : Int) := by omega
      have hbw : b < wr.heap.size := Nat.lt_of_lt_of_le hbl kk.size
      have hne1 : b ≠ wr.heap.size := by omega
      have hne2 : w.heap.size ≠ wr.heap.size := by omega
      have KK := Lib.hid kk
      have HF : Hid (okOb l ⟨oid, osz, owk, orA, orc, orefs, oeA, oec, oents⟩ = false → chk 0 os = false) := by
        intro hf
        cases hx : chk 0 os with
        | false => rfl
        | true =>
          have := chk_take (k + 1) hx
          rw [HS.out, hf] at this
          simp at this
      clear kk hcells d0 d1 d2 d3 d4 hlen hck
      have key : (decide (oid < 1) = true ∧ okOb l ⟨oid, osz, owk, orA, orc, orefs, oeA, oec, oents⟩ = false) ∨ (decide (oid < 1) = false ∧ (oid ≤ l → 0 < k)) := by
        by_cases h : oid < 1
        · exact .inl ⟨by simp [h], by simp [okOb]; omega⟩
        · refine .inr ⟨by simp; omega, fun h2 => ?_⟩
          rcases hpv with ⟨_, h3⟩ | ⟨h3, _⟩
          · omega
          · simpa using h3
      rcases key with ⟨t1, hbad⟩ | ⟨t1, hkl⟩
      · have HBAD := Lib.hid (HF.out hbad)
        clear hbad hpv
        go_wp2_with fail
        go_quiet (fail)
        go_wp2
        go_ret
        exact ⟨by rw [chkE, HBAD.out]; rfl, (KK.out.alloc _).drewN _⟩
      · have key2 : (oid ≤ l ∧ decide (0 < k) = true ∧ wr.cell? ⟨b, off + (k - 1) * 5, none⟩ = some (.int .i64 l) ∧ decide (oid ≤ l) = true) ∨ (¬ oid ≤ l ∧ (k = 0 ∨ (decide (0 < k) = true ∧ wr.cell? ⟨b, off + (k - 1) * 5, none⟩ = some (.int .i64 l) ∧ decide (oid ≤ l) = false))) := by
          by_cases h : oid ≤ l
          · have h0 := hkl h
            rcases hpv with ⟨h3, _⟩ | ⟨h3, h4⟩
            · omega
            · exact .inl ⟨h, h3, h4, by simp [h]⟩
          · rcases hpv with ⟨h3, _⟩ | ⟨h3, h4⟩
            · exact .inr ⟨h, .inl h3⟩
            · exact .inr ⟨h, .inr ⟨h3, h4, by simp; omega⟩⟩
        clear hpv hkl
        have c2 : IntKind.i64.wrap ((k : Int) - 1) = (k : Int) - 1 := IntWalk.i64_in _ (by omega)
        rcases key2 with ⟨h1, t2, p0, t3⟩ | ⟨h1, hor⟩
        · have hk0 : 0 < k := by simpa using t2
          have c3 : (0 : Int) ≤ (k : Int) - 1 := by omega
          have c4 : ((k : Int) - 1).toNat = k - 1 := by omega
          have c5 : (k : Int) - 1 < (on : Int) := by omega
          have HBAD := Lib.hid (HF.out (by simp [okOb]; omega))
          go_wp2_with fail
          go_quiet (fail)
          go_wp2
          go_ret
          exact ⟨by rw [chkE, HBAD.out]; rfl, (KK.out.alloc _).drewN _⟩
        · have key3 : (decide (osz < 0) = true ∧ okOb l ⟨oid, osz, owk, orA, orc, orefs, oeA, oec, oents⟩ = false) ∨ (decide (osz < 0) = false ∧ decide (owk < 0) = true ∧ okOb l ⟨oid, osz, owk, orA, orc, orefs, oeA, oec, oents⟩ = false) ∨ (decide (osz < 0) = false ∧ decide (owk < 0) = false ∧ decide (3 < owk) = true ∧ okOb l ⟨oid, osz, owk, orA, orc, orefs, oeA, oec, oents⟩ = false) ∨ (decide (osz < 0) = false ∧ decide (owk < 0) = false ∧ decide (3 < owk) = false ∧ okOb l ⟨oid, osz, owk, orA, orc, orefs, oeA, oec, oents⟩ = true) := by
            by_cases h2 : osz < 0
            · exact .inl ⟨by simp [h2], by simp [okOb]; omega⟩
            · by_cases h3 : owk < 0
              · exact .inr (.inl ⟨by simp; omega, by simp [h3], by simp [okOb]; omega⟩)
              · by_cases h4 : 3 < owk
                · exact .inr (.inr (.inl ⟨by simp; omega, by simp; omega, by simp [h4], by simp [okOb]; omega⟩))
                · exact .inr (.inr (.inr ⟨by simp; omega, by simp; omega, by simp; omega, by simp [okOb]; omega⟩))
          have c4 : ((k : Int) - 1).toNat = k - 1 := by omega
          have c5 : (k : Int) - 1 < (on : Int) := by omega
          have c6 : k = 0 ∨ (0 : Int) ≤ (k : Int) - 1 := by omega
          rcases key3 with h3 | h3 | h3 | ⟨u1, u2, u3, hgood⟩
          · obtain ⟨u1, hbad⟩ := h3
            have HBAD := Lib.hid (HF.out hbad)
            clear hbad
            rcases hor with rfl | ⟨t2, p0, t3⟩
            · simp only [Nat.zero_mul, Nat.add_zero] at e0 e1 e2 e3 e4
              go_wp2_with fail
              go_quiet (fail)
              go_wp2
              go_ret
              exact ⟨by rw [chkE, HBAD.out]; rfl, (KK.out.alloc _).drewN _⟩
            · replace c6 : (0 : Int) ≤ (k : Int) - 1 := by
                have : 0 < k := by simpa using t2
                omega
              go_wp2_with fail
              go_quiet (fail)
              go_wp2
              go_ret
              exact ⟨by rw [chkE, HBAD.out]; rfl, (KK.out.alloc _).drewN _⟩
          · obtain ⟨u1, u2, hbad⟩ := h3
            have HBAD := Lib.hid (HF.out hbad)
            clear hbad
            rcases hor with rfl | ⟨t2, p0, t3⟩
            · simp only [Nat.zero_mul, Nat.add_zero] at e0 e1 e2 e3 e4
              go_wp2_with fail
              go_quiet (fail)
              go_wp2
              go_ret
              exact ⟨by rw [chkE, HBAD.out]; rfl, (KK.out.alloc _).drewN _⟩
            · replace c6 : (0 : Int) ≤ (k : Int) - 1 := by
                have : 0 < k := by simpa using t2
                omega
              go_wp2_with fail
              go_quiet (fail)
              go_wp2
              go_ret
              exact ⟨by rw [chkE, HBAD.out]; rfl, (KK.out.alloc _).drewN _⟩
          · obtain ⟨u1, u2, u3, hbad⟩ := h3
            have HBAD := Lib.hid (HF.out hbad)
            clear hbad
            rcases hor with rfl | ⟨t2, p0, t3⟩
            · simp only [Nat.zero_mul, Nat.add_zero] at e0 e1 e2 e3 e4
              go_wp2_with fail
              go_quiet (fail)
              go_wp2
              go_ret
              exact ⟨by rw [chkE, HBAD.out]; rfl, (KK.out.alloc _).drewN _⟩
            · replace c6 : (0 : Int) ≤ (k : Int) - 1 := by
                have : 0 < k := by simpa using t2
                omega
              go_wp2_with fail
              go_quiet (fail)
              go_wp2
              go_ret
              exact ⟨by rw [chkE, HBAD.out]; rfl, (KK.out.alloc _).drewN _⟩
          · have HT : Hid (chk 0 (os.take (k + 1)) = true) := by
              show _ = _
              rw [HS.out, HCK.out, hgood]
              rfl
            have HX : Hid (∀ n, Kept (fun _ => False) w ((wr.alloc (.cells #[.int .i64 oid, .int .i64 osz, .int .i64 owk, .slice orA rl orc, .slice oeA el oec] 39)).drewN n) ∧ ((wr.alloc (.cells #[.int .i64 oid, .int .i64 osz, .int .i64 owk, .slice orA rl orc, .slice oeA el oec] 39)).drewN n).cell? ⟨w.heap.size, 0, none⟩ = some (.slice (some ⟨b, off, none⟩) on oc) ∧ w.heap.size < ((wr.alloc (.cells #[.int .i64 oid, .int .i64 osz, .int .i64 owk, .slice orA rl orc, .slice oeA el oec] 39)).drewN n).heap.size) := by
              intro n
              have hk2 : Kept (fun _ => False) wr ((wr.alloc (.cells #[.int .i64 oid, .int .i64 osz, .int .i64 owk, .slice orA rl orc, .slice oeA el oec] 39)).drewN n) := ((Kept.refl _ wr).alloc _).drewN _
              exact ⟨KK.out.trans hk2 (fun _ _ h => h), (hk2.cell (p := ⟨w.heap.size, 0, none⟩) hsz (by simp)).trans hbx, Nat.lt_of_lt_of_le hsz hk2.size⟩
            rcases hor with rfl | ⟨t2, p0, t3⟩
            · simp only [Nat.zero_mul, Nat.add_zero] at e0 e1 e2 e3 e4
              go_wp2_with fail
              go_quiet (fail)
              go_wp2
              go_roundw
              case rel => exact ⟨1, by omega, by go_num, HT.out, HX.out _⟩
              case measure => simp [intOf]; omega
            · replace c6 : (0 : Int) ≤ (k : Int) - 1 := by
                have : 0 < k := by simpa using t2
                omega
              go_wp2_with fail
              go_quiet (fail)
              go_wp2
              go_roundw
              case rel => exact ⟨k + 1, by omega, by go_num, HT.out, HX.out _⟩
              case measure => simp [intOf]; omega
    · obtain rfl : k = on := by omega
      rw [List.take_of_length_le (by rw [H.out.len]; exact Nat.le_refl _)] at hck
      have HN := Lib.hid hck
      have KK := Lib.hid kk
      clear hck kk hlt
      go_wp2
      go_ret
      exact ⟨by rw [chkE, HN.out]; rfl, KK.out⟩
end Go.Proofs.Ytalhldfcdfdoeaa
