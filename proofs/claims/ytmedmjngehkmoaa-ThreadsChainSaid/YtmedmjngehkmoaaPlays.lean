/- What is proved here: the contract of the law's 'shown', and that ThreadsPlays returns true for every list of calls. Condition: the argument lies in memory as a list of calls. -/
import Derived.Test.YtmedmjngehkmoaaMade
namespace Go.Proofs.Ytmedmjngehkmoaa
open Go.RowKit
section
variable {B : Nat → Prop} {w wr : World} {g g2 : Nat} {t u : Tab}
theorem b_status (h : Both B w wr g g2 t u) (id : Int) : Calls Try.prog 18 #[.pointer (some ⟨g, 0, none⟩), .int .i64 id] wr fun e w' => e = .returned (.string (t.status id)) ∧ wr = w' := by
  obtain ⟨F, G, m, n, i, j, d, k, s⟩ := h
  exact p_status m id
theorem c_status (h : Both B w wr g g2 t u) (id : Int) : Calls Try.prog 34 #[.pointer (some ⟨g2, 0, none⟩), .int .i64 id] wr fun e w' => e = .returned (.string (u.status id)) ∧ wr = w' := by
  obtain ⟨F, G, m, n, i, j, d, k, s⟩ := h
  exact q_status n id
theorem b_running (h : Both B w wr g g2 t u) : Calls Try.prog 15 #[.pointer (some ⟨g, 0, none⟩)] wr fun e w' => e = .returned (.int .i64 (t.now : Int)) ∧ wr = w' := by
  obtain ⟨F, G, m, n, i, j, d, k, s⟩ := h
  exact p_running m
theorem c_running (h : Both B w wr g g2 t u) : Calls Try.prog 35 #[.pointer (some ⟨g2, 0, none⟩)] wr fun e w' => e = .returned (.int .i64 (u.now : Int)) ∧ wr = w' := by
  obtain ⟨F, G, m, n, i, j, d, k, s⟩ := h
  exact q_running n
theorem b_count (h : Both B w wr g g2 t u) : Calls Try.prog 25 #[.pointer (some ⟨g, 0, none⟩)] wr fun e w' => e = .returned (.int .i64 (t.sts.length : Int)) ∧ wr = w' := by
  obtain ⟨F, G, m, n, i, j, d, k, s⟩ := h
  exact p_count m
theorem c_count (h : Both B w wr g g2 t u) : Calls Try.prog 33 #[.pointer (some ⟨g2, 0, none⟩)] wr fun e w' => e = .returned (.int .i64 (u.sts.length : Int)) ∧ wr = w' := by
  obtain ⟨F, G, m, n, i, j, d, k, s⟩ := h
  exact q_count n
theorem Fresh.kept {w w' : World} {xs : List Nat} {v : Value} (h : Fresh w xs v w') : Kept (fun _ => False) w w' := by
  obtain ⟨_, _, _, _, _, h⟩ := h
  exact h
theorem b_chain (h : Both B w wr g g2 t u) : Calls Try.prog 20 #[.pointer (some ⟨g, 0, none⟩)] wr fun e w' => (∃ v, e = .returned v ∧ Fresh wr t.chain v w') ∧ Both B w w' g g2 t u := by
  have hb := h
  obtain ⟨F, G, m, n, i, j, d, k, s⟩ := h
  refine (p_chain i m).mono ?_
  rintro e w' ⟨v, rfl, hf⟩
  exact ⟨⟨v, rfl, hf⟩, hb.later hf.kept⟩
theorem c_chain (h : Both B w wr g g2 t u) : Calls Try.prog 36 #[.pointer (some ⟨g2, 0, none⟩)] wr fun e w' => (∃ v, e = .returned v ∧ Fresh wr u.chain v w') ∧ Both B w w' g g2 t u := by
  have hb := h
  obtain ⟨F, G, m, n, i, j, d, k, s⟩ := h
  refine (q_chain j n).mono ?_
  rintro e w' ⟨v, rfl, hf⟩
  exact ⟨⟨v, rfl, hf⟩, hb.later hf.kept⟩
theorem Both.invP (h : Both B w wr g g2 t u) : t.Inv := by
  obtain ⟨F, G, m, n, i, j, d, k, s⟩ := h
  exact i

set_option maxHeartbeats 2000000 in
theorem shown_same (h : Both B w wr g g2 t t) : Calls Try.prog 24 #[.pointer (some ⟨g, 0, none⟩), .pointer (some ⟨g2, 0, none⟩)] wr
    fun e w' => e = .returned (.bool true) ∧ Both B w w' g g2 t t := by
  obtain ⟨L, hL⟩ : ∃ L, L = t.sts.length := ⟨_, rfl⟩
  have hfew : L ≤ 65536 := by rw [hL]; exact h.invP.few
  have HF := Lib.hid hfew
  have hbd : L + 2 ≤ 9223372036854775807 := by omega
  have hcnt := c_count h
  have hcnt' := b_count h
  rw [← hL] at hcnt hcnt'
  have HC := Lib.hid hcnt
  have HC' := Lib.hid hcnt'
  have HL := Lib.hid hL
  clear hL hcnt hcnt' hfew
  go_enter Try.func24, Try.ntmps24
  go_wp2_with fail
  go_loop [5] (fun i => ∃ k : Nat, k ≤ L + 2 ∧ i = .int .i64 ((k : Int) - 1)) (fun i => L + 2 - (intOf i + 1).toNat)
  case atStart => exact ⟨0, by omega, rfl⟩
  case round =>
    obtain ⟨k, hk, rfl⟩ := hrel
    go_wp2_with fail
    refine HC.out.mono ?_
    rintro e w1 ⟨rfl, rfl⟩
    by_cases hlt : k < L + 2
    · have hd : decide ((k : Int) - 1 ≤ (L : Int)) = true := by simp; omega
      have hs1 := b_status h ((k : Int) - 1)
      have hs2 := c_status h ((k : Int) - 1)
      generalize t.status ((k : Int) - 1) = s at *
      have H1 := Lib.hid hs1
      have H2 := Lib.hid hs2
      clear hs1 hs2
      go_wp2_with fail
      refine H1.out.mono ?_
      rintro e w1 ⟨rfl, rfl⟩
      go_wp2_with fail
      refine H2.out.mono ?_
      rintro e w1 ⟨rfl, rfl⟩
      clear H1 H2
      go_wp2
      go_round
      case rel => exact ⟨k + 1, by omega, by go_num⟩
      case measure => simp [intOf]; omega
    · have hd : decide ((k : Int) - 1 ≤ (L : Int)) = false := by simp; omega
      clear hlt
      have hr1 := b_running h
      have hr2 := c_running h
      generalize t.now = q at *
      have H1 := Lib.hid hr1
      have H2 := Lib.hid hr2
      clear hr1 hr2
      go_wp2_with fail
      refine H1.out.mono ?_
      rintro e w1 ⟨rfl, rfl⟩
      go_wp2_with fail
      refine H2.out.mono ?_
      rintro e w1 ⟨rfl, rfl⟩
      clear H1 H2
      go_wp2_with fail
      refine HC'.out.mono ?_
      rintro e w1 ⟨rfl, rfl⟩
      go_wp2_with fail
      refine HC.out.mono ?_
      rintro e w1 ⟨rfl, rfl⟩
      go_wp2_with fail
      refine (b_chain h).mono ?_
      rintro e w1 ⟨⟨v1, rfl, f1⟩, h1⟩
      go_wp2_with fail
      refine (c_chain h1).mono ?_
      rintro e w2 ⟨⟨v2, rfl, f2⟩, h2⟩
      have hi := ints_same w2 v1 v2 t.chain (f1.holds.later f2.kept) f2.holds (by have := h.invP.short; omega)
      have HI := Lib.hid hi
      have H2 := Lib.hid h2
      clear hi h2 h1 f1 f2
      go_wp2_with fail
      refine HI.out.mono ?_
      rintro e w3 ⟨rfl, hk3⟩
      have H3 := Lib.hid (H2.out.later hk3)
      clear hk3 HI
      go_wp2
      go_ret
      exact ⟨rfl, H3.out⟩

end

set_option maxHeartbeats 2000000 in
theorem plays_walk (w : World) (A : Option Addr) (n c : Nat) (xs : List Tab.Op) (ho : Ops w A n xs) :
    Calls Try.prog 7 #[.slice A n c] w fun e w' => e = .returned (.bool true) ∧ Kept (fun _ => False) w w' := by
  have HO := Lib.hid ho
  clear ho
  by_cases hn : 300 < n
  · have hb : decide ((300 : Int) < (n : Int)) = true := by simp; omega
    clear hn
    go_enter Try.func7, Try.ntmps7
    go_wp2_with fail
    refine (lives_any _).mono ?_
    rintro e w1 ⟨rfl, hk⟩
    have HK := Lib.hid hk
    clear hk
    go_wp2
    go_ret
    exact ⟨rfl, HK.out⟩
  · have hb : decide ((300 : Int) < (n : Int)) = false := by simp; omega
    have hn3 : n ≤ 300 := by omega
    clear hn
    go_enter Try.func7, Try.ntmps7
    go_wp2_with fail
    refine (m_new w).mono ?_
    rintro e w1 ⟨rfl, m1⟩
    generalize w.heap.size + 1 = g at *
    go_wp2_with fail
    refine (q_new w1).mono ?_
    rintro e w2 ⟨rfl, p2⟩
    generalize w1.heap.size + 1 + 1 = g2 at *
    have h2 := Lib.hid (both_new m1 p2 Tab.inv_init)
    clear m1 p2
    go_wp2_with fail
    go_loopw [5] (fun i wr => ∃ k : Nat, k ≤ n ∧ i = .int .i64 (k : Int) ∧ Both (fun _ => False) w wr g g2 (Tab.init.run (xs.take k)) (Tab.init.run (xs.take k))) (fun i _ => n - (intOf i).toNat)
    case atStart => exact ⟨0, Nat.zero_le _, rfl, by simpa [Tab.run] using h2.out⟩
    case round =>
      obtain ⟨k, hk, rfl, hb'⟩ := hrel
      by_cases hlt : k < n
      · obtain ⟨b, off, hA, hbl, hcells⟩ := HO.out.at_ (by omega)
        have hlen := HO.out.len
        have hxk : xs[k]? = some xs[k] := List.getElem?_eq_getElem (by omega)
        obtain ⟨c0, c1, c2⟩ := hcells k _ hxk
        have hkk := hb'.kept
        have d0 := (hkk.cell (p := ⟨b, off + k * 3, none⟩) hbl (by simp)).trans c0
        have d1 := (hkk.cell (p := ⟨b, off + k * 3 + 1, none⟩) hbl (by simp)).trans c1
        have d2 := (hkk.cell (p := ⟨b, off + k * 3 + 2, none⟩) hbl (by simp)).trans c2
        have HX := Lib.hid (Tab.run_snoc Tab.init xs k (by omega))
        subst hA
        have hs := step_same hb' xs[k]
        have HS := Lib.hid hs
        clear hs hkk c0 c1 c2 hcells hxk hb' h2
        generalize xs[k]'(by omega) = x at *
        clear hlen HO
        go_wp2_with fail
        refine HS.out.mono ?_
        rintro e w3 ⟨rfl, h3⟩
        rw [← HX.out] at h3
        clear HS HX d0 d1 d2
        go_wp2_with fail
        refine (shown_same h3).mono ?_
        rintro e w4 ⟨rfl, h4⟩
        have H4 := Lib.hid h4
        clear h3 h4
        go_wp2
        go_roundw
        case rel => exact ⟨k + 1, by omega, by go_num, H4.out⟩
        case measure => simp [intOf]; omega
      · have hge : n ≤ k := by omega
        have HB := Lib.hid hb'
        clear hb' h2 hlt
        go_wp2_with fail
        refine (lives_any _).mono ?_
        rintro e w4 ⟨rfl, hk4⟩
        have HK := Lib.hid hk4
        clear hk4
        go_wp2
        go_ret
        exact ⟨rfl, HB.out.kept.trans HK.out (fun _ _ h => h)⟩
end Go.Proofs.Ytmedmjngehkmoaa
