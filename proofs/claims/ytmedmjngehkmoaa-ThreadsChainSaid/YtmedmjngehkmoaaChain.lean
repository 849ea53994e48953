/- What is proved here: ThreadsChain returns true for every list of calls. Condition: the argument lies in memory as a list of calls. -/
import Derived.Test.YtmedmjngehkmoaaPlays
import Derived.Test.YtmedmjngehkmoaaClose
namespace Go.Proofs.Ytmedmjngehkmoaa
open Go.RowKit
namespace Tab

theorem count_one {l : List Nat} (h : l.Nodup) {a : Nat} (ha : a ∈ l) : l.count a = 1 := by
  have h1 := List.count_pos_iff.2 ha
  have h2 := List.nodup_iff_count.1 h a
  omega

/-- The states of a number and how often it stands in the chain. -/
theorem chain_ways {t : Tab} (hI : t.Inv) {k : Nat} (hk : k < t.sts.length) :
    (t.status (k : Int) = ⟨#[115, 117, 115, 112, 101, 110, 100, 101, 100]⟩ ∧ t.chain.count k = 0 ∧ t.now ≠ k) ∨
    (t.status (k : Int) = ⟨#[114, 117, 110, 110, 105, 110, 103]⟩ ∧ t.chain.count k = 1 ∧ t.now = k) ∨
    (t.status (k : Int) = ⟨#[110, 111, 114, 109, 97, 108]⟩ ∧ t.chain.count k = 1 ∧ t.now ≠ k) ∨
    (t.status (k : Int) = ⟨#[100, 101, 97, 100]⟩ ∧ t.chain.count k = 0 ∧ t.now ≠ k) := by
  have hrun := hI.run k hk
  have hnor := hI.nor k hk
  have hnow : t.now = k ↔ t.st k = 1 := by
    rw [hrun, hI.now_eq]; simp
  rw [status_in hk]
  have hc : t.st k = 0 ∨ t.st k = 1 ∨ t.st k = 2 ∨ 3 ≤ t.st k := by omega
  rcases hc with h | h | h | h
  · refine .inl ⟨by rw [h]; rfl, List.count_eq_zero.2 (hI.not_chain hk (by omega) (by omega)), by rw [Ne, hnow]; omega⟩
  · refine .inr (.inl ⟨by rw [h]; rfl, count_one hI.nodup (List.mem_of_mem_head? (by rw [hrun.1 h]; rfl)), hnow.2 h⟩)
  · refine .inr (.inr (.inl ⟨by rw [h]; rfl, count_one hI.nodup (List.mem_of_mem_tail (hnor.1 h)), by rw [Ne, hnow]; omega⟩))
  · refine .inr (.inr (.inr ⟨statusOf_ge h, List.count_eq_zero.2 (hI.not_chain hk (by omega) (by omega)), by rw [Ne, hnow]; omega⟩))

theorem count_snoc (c : List Nat) (k j : Nat) (h : j < c.length) : (c.take (j + 1)).count k = (c.take j).count k + if c[j] = k then 1 else 0 := by
  rw [List.take_succ_eq_append_getElem h, List.count_append]
  simp [List.count_cons]

end Tab

/-- How many of the first k are the running one. -/
def seen (nw k : Nat) : Int := if nw < k then 1 else 0

theorem quiet_running {w wr : World} {g : Nat} {t : Tab} (h : Mine w wr g t) (n : Nat) : Calls Try.prog 15 #[.pointer (some ⟨g, 0, none⟩)] (wr.drewN n) fun e w' => e = .returned (.int .i64 (t.now : Int)) ∧ w' = wr.drewN n := by
  have hm : Mine w (wr.drewN n) g t := h.later ((Kept.refl _ wr).drewN n)
  exact (m_running hm).mono fun e w' ⟨he, hw⟩ => ⟨he, hw.symm⟩

set_option maxRecDepth 100000 in
set_option maxHeartbeats 4000000 in
theorem chain_law (w : World) (A : Option Addr) (n c : Nat) (xs : List Tab.Op) (ho : Ops w A n xs) :
    Calls Try.prog 8 #[.slice A n c] w fun e w' => e = .returned (.bool true) ∧ Kept (fun _ => False) w w' := by
  have HO := Lib.hid ho
  clear ho
  by_cases hn : 300 < n
  · have hb : decide ((300 : Int) < (n : Int)) = true := by simp; omega
    clear hn
    go_enter Try.func8, Try.ntmps8
    go_wp2_with fail
    refine (lives_any _).mono ?_
    rintro e w1 ⟨rfl, hk⟩
    have HK := Lib.hid hk
    clear hk
    go_wp2
    go_ret
    exact ⟨rfl, HK.out⟩
  · have hb : decide ((300 : Int) < (n : Int)) = false := by simp; omega
    have hm := made_any w A n c xs HO.out (by omega)
    generalize Tab.init.run xs = t at hm
    have HM := Lib.hid hm
    clear hn hm
    go_enter Try.func8, Try.ntmps8
    go_wp2_with fail
    refine HM.out.mono ?_
    rintro e w1 ⟨g, rfl, m1⟩
    clear HM
    go_wp2_with fail
    refine (m_chain m1).mono ?_
    rintro e w2 ⟨⟨v1, rfl, r, cap, hv, hown, _, _⟩, m2⟩
    clear m1
    rw [hv]
    clear hv
    have hI := m2.inv
    obtain ⟨hp, hc0⟩ : ∃ h : 0 < t.chain.length, t.chain[0] = t.now := by
      obtain ⟨a, c, e⟩ := hI.some_
      have hp : 0 < t.chain.length := by rw [e]; simp
      refine ⟨hp, ?_⟩
      have := hI.now_eq
      rw [List.head?_eq_getElem?, List.getElem?_eq_getElem hp] at this
      exact Option.some.inj this
    have hcl : t.chain[t.chain.length - 1] = 0 := by
      have := hI.last
      rw [List.getLast?_eq_getElem?, List.getElem?_eq_getElem (by omega)] at this
      exact Option.some.inj this
    have hsh := hI.short
    have d0 : w2.cell? ⟨r, 0, none⟩ = some (.int .i64 (t.now : Int)) := by rw [Holds.cell hown hp, hc0]
    have d1 : w2.cell? ⟨r, t.chain.length - 1, none⟩ = some (.int .i64 0) := by rw [Holds.cell hown (i := t.chain.length - 1) (by omega), hcl]; rfl
    obtain ⟨len, hlen⟩ : ∃ len, len = t.chain.length := ⟨_, rfl⟩
    have HLN := Lib.hid hlen
    have HOWN := Lib.hid hown
    have HI := Lib.hid hI
    rw [← hlen] at d1 hsh hp ⊢
    clear hlen hcl hc0 hown hI
    have b0 : ((len : Int) == 0) = false := by simp; omega
    have b1 : (0 : Int) < (len : Int) := by omega
    have b2 : IntKind.i64.wrap ((len : Int) - 1) = (len : Int) - 1 := IntWalk.i64_in _ (by omega)
    have b3 : (0 : Int) ≤ (len : Int) - 1 := by omega
    have b4 : ((len : Int) - 1).toNat = len - 1 := by omega
    have b5 : (len : Int) - 1 < (len : Int) := by omega
    have b6 : decide ((9 : Int) < (len : Int)) = false := by simp; omega
    go_wp2_with fail
    go_quiet ((go_at_call 15; exact Calls.quiet_of_same (quiet_running m2 _)))
    obtain ⟨L, hL⟩ : ∃ L, L = t.sts.length := ⟨_, rfl⟩
    have HL := Lib.hid hL
    have mq : Mine w (w2.drewN nq) g t := m2.later ((Kept.refl _ w2).drewN _)
    have oq : (w2.drewN nq).ownsRow 0 3 1 (.slice (some ⟨r, 0, none⟩) t.chain.length cap) t.chain.length (nums t.chain) := HOWN.out
    generalize w2.drewN nq = W at *
    have hfew : L ≤ 65536 := by rw [hL]; exact HI.out.few
    have hbd : L + 1 ≤ 9223372036854775807 := by omega
    have HF := Lib.hid hfew
    have MQ := Lib.hid mq
    have OQ := Lib.hid oq
    clear hL d0 d1 b0 b1 b2 b3 b4 b5 b6 hfew m2 HOWN mq oq
    go_wp2_with fail
    go_loop [6, 7] (fun q i => ∃ k : Nat, k ≤ L ∧ i = .int .i64 (k : Int) ∧ q = .int .i64 (seen t.now k)) (fun _ i => L - (intOf i).toNat)
    case atStart => exact ⟨0, Nat.zero_le _, rfl, rfl⟩
    case round =>
      obtain ⟨k, hk, rfl, rfl⟩ := hrel
      have hq := m_count MQ.out
      rw [← HL.out] at hq
      have HQ := Lib.hid hq
      have hsn : 0 ≤ seen t.now k ∧ seen t.now k ≤ 1 := by unfold seen; split <;> omega
      obtain ⟨q, hqq⟩ : ∃ q, q = seen t.now k := ⟨_, rfl⟩
      rw [← hqq] at hsn ⊢
      obtain ⟨sn0, sn1⟩ := hsn
      have HS := Lib.hid hqq
      clear hq hqq
      go_wp2_with fail
      refine HQ.out.mono ?_
      rintro e w3 ⟨rfl, rfl⟩
      clear HQ
      by_cases hlt : k < L
      · have hst := m_status MQ.out (k : Int)
        rcases Tab.chain_ways HI.out (k := k) (by rw [← HL.out]; exact hlt) with ⟨e1, e2, e3⟩ | ⟨e1, e2, e3⟩ | ⟨e1, e2, e3⟩ | ⟨e1, e2, e3⟩
        all_goals
          rw [e1] at hst
          have HST := Lib.hid hst
          have E2 := Lib.hid e2
          have E3 := Lib.hid e3
          clear hst e1 e2 e3
          go_wp2_with fail
          refine HST.out.mono ?_
          rintro e w3 ⟨rfl, rfl⟩
          clear HST
          go_wp2_with fail
          go_loop [9, 10] (fun x i => ∃ j : Nat, j ≤ len ∧ i = .int .i64 (j : Int) ∧ x = .int .i64 (((t.chain.take j).count k : Nat) : Int)) (fun _ i => len - (intOf i).toNat)
          case atStart => exact ⟨0, Nat.zero_le _, rfl, rfl⟩
          case round =>
            obtain ⟨j, hj, rfl, rfl⟩ := hrel
            have hcle : (t.chain.take j).count k ≤ j := Nat.le_trans List.count_le_length (by simp; omega)
            by_cases hjl : j < len
            · have hcell := Holds.cell OQ.out (i := j) (by rw [← HLN.out]; exact hjl)
              have hsnoc := Tab.count_snoc t.chain k j (by rw [← HLN.out]; exact hjl)
              generalize t.chain[j]'(by rw [← HLN.out]; exact hjl) = a at *
              have HSN := Lib.hid hsnoc
              clear hsnoc
              by_cases hak : a = k
              · have hbk : ((a : Int) == (k : Int)) = true := by simp [hak]
                have HAK := Lib.hid hak
                clear hak
                obtain ⟨x, hx⟩ : ∃ x, x = (t.chain.take j).count k := ⟨_, rfl⟩
                rw [← hx] at hcle ⊢
                have HX := Lib.hid hx
                clear hx
                go_wp2
                go_round
                case rel => exact ⟨j + 1, by omega, by go_num, by rw [HSN.out, if_pos HAK.out, ← HX.out]; go_num⟩
                case measure => simp [intOf]; omega
              · have hbk : ((a : Int) == (k : Int)) = false := by simp; omega
                have HAK := Lib.hid hak
                clear hak
                obtain ⟨x, hx⟩ : ∃ x, x = (t.chain.take j).count k := ⟨_, rfl⟩
                rw [← hx] at hcle ⊢
                have HX := Lib.hid hx
                clear hx
                go_wp2
                go_round
                case rel => exact ⟨j + 1, by omega, by go_num, by rw [HSN.out, if_neg HAK.out, ← HX.out]; rfl⟩
                case measure => simp [intOf]; omega
            · have hjn : len ≤ j := by omega
              rw [List.take_of_length_le (by rw [← HLN.out]; exact hjn), E2.out]
              clear hcle hjl
              go_wp2
              go_round
              case rel => exact ⟨k + 1, by omega, by go_num, by first | (rw [HS.out]; have := E3.out; unfold seen; refine congrArg _ ?_; split <;> split <;> omega) | (have h := HS.out; have := E3.out; unfold seen at h ⊢; refine congrArg _ ?_; rw [h]; split <;> split <;> omega)⟩
              case measure => simp [intOf]; omega
      · have hge : L ≤ k := by omega
        have hs1 : q = 1 := by rw [HS.out]; unfold seen; rw [if_pos (by have := HI.out.now_lt; rw [← HL.out] at this; omega)]
        subst hs1
        have MM := Lib.hid MQ.out
        clear hlt
        go_wp2_with fail
        refine (lives_any _).mono ?_
        rintro e w4 ⟨rfl, k4⟩
        have K4 := Lib.hid k4
        clear k4
        go_wp2
        go_ret
        exact ⟨rfl, MM.out.kept.trans K4.out (fun _ _ h => h)⟩
end Go.Proofs.Ytmedmjngehkmoaa
