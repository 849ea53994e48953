/- What is proved here: ThreadsNest returns true for every input. No condition. -/
import Derived.Test.YtmedmjngehkmoaaOwn
namespace Go.Proofs.Ytmedmjngehkmoaa
open Go.RowKit
namespace Tab
/-- m coroutines besides the main one; those up to j are resumed within one another. -/
def nest (m j : Nat) : Tab := ⟨(List.range (m + 1)).map fun i => if i = j then 1 else if i < j then 2 else 0, (List.range (j + 1)).reverse⟩
theorem ext_ {t u : Tab} (h1 : t.sts = u.sts) (h2 : t.chain = u.chain) : t = u := by
  cases t; cases u; simp at h1 h2; simp [h1, h2]
theorem pair_ext {α : Type} {p : α × Tab} {a : α} {t : Tab} (h : p.1 = a ∧ p.2.sts = t.sts ∧ p.2.chain = t.chain) : p = (a, t) := by
  obtain ⟨h1, h2, h3⟩ := h
  exact Prod.ext h1 (ext_ h2 h3)
theorem nest_create (m : Nat) (h : m < 20) : (nest m 0).create = ((m + 1, 0), nest (m + 1) 0) := by
  have : ∀ m, m < 20 → (nest m 0).create.1 = (m + 1, 0) ∧ (nest m 0).create.2.sts = (nest (m + 1) 0).sts ∧ (nest m 0).create.2.chain = (nest (m + 1) 0).chain := by decide +kernel
  exact pair_ext (this m h)
theorem nest_resume (m : Nat) (hm : m < 21) (j : Nat) (hj : j < 8) (hjm : j < m) : (nest m j).resume ((j : Int) + 1) = (0, nest m (j + 1)) := by
  have : ∀ m, m < 21 → ∀ j, j < 8 → j < m → ((nest m j).resume ((j : Int) + 1)).1 = 0 ∧ ((nest m j).resume ((j : Int) + 1)).2.sts = (nest m (j + 1)).sts ∧ ((nest m j).resume ((j : Int) + 1)).2.chain = (nest m (j + 1)).chain := by decide +kernel
  exact pair_ext (this m hm j hj hjm)
theorem nest_full (m : Nat) (hm : m < 21) (i : Nat) (h8 : 8 < i) (him : i ≤ m) : (nest m 8).resume (i : Int) = (17, nest m 8) := by
  have : ∀ m, m < 21 → ∀ i, i < 21 → (8 < i ∧ i ≤ m → ((nest m 8).resume (i : Int)).1 = 17 ∧ ((nest m 8).resume (i : Int)).2.sts = (nest m 8).sts ∧ ((nest m 8).resume (i : Int)).2.chain = (nest m 8).chain) := by decide +kernel
  exact pair_ext (this m hm i (by omega) ⟨h8, him⟩)
theorem nest_yield (m : Nat) (hm : m < 21) (j : Nat) (hj : j < 8) (hjm : j < m) : (nest m (j + 1)).yld = ((j, 0), nest m j) := by
  have : ∀ m, m < 21 → ∀ j, j < 8 → j < m → (nest m (j + 1)).yld.1 = (j, 0) ∧ (nest m (j + 1)).yld.2.sts = (nest m j).sts ∧ (nest m (j + 1)).yld.2.chain = (nest m j).chain := by decide +kernel
  exact pair_ext (this m hm j hj hjm)
theorem nest_main (m : Nat) : (nest m 0).yld = ((0, 25), nest m 0) ∧ (nest m 0).fin true = ((0, 16), nest m 0) ∧ (nest m 0).now = 0 := ⟨rfl, rfl, rfl⟩
end Tab

set_option maxRecDepth 100000 in
set_option maxHeartbeats 2000000 in
theorem nest_walk (n : Nat) (hn : n ≤ 255) (w : World) : Calls Try.prog 3 #[.int .u8 (n : Int)] w fun e w' => e = .returned (.bool true) ∧ Kept (fun _ => False) w w' := by
  obtain ⟨m, hm⟩ : ∃ m : Nat, m = 1 + n % 20 := ⟨_, rfl⟩
  have hm1 : 1 ≤ m := by omega
  have hm2 : m ≤ 20 := by omega
  go_enter Try.func3, Try.ntmps3
  go_wp2_with fail
  refine (m_new w).mono ?_
  rintro e w1 ⟨rfl, m1⟩
  generalize w.heap.size + 1 = g at *
  have M1 := Lib.hid m1
  clear m1
  have HM := Lib.hid hm
  clear hm
  go_wp2_with fail
  rw [show (1 + (n : Int) % 20) = (m : Int) by rw [HM.out]; omega]
  go_loopw [5] (fun i wr => ∃ k : Nat, 1 ≤ k ∧ k ≤ m + 1 ∧ i = .int .i64 (k : Int) ∧ Mine w wr g (Tab.nest (k - 1) 0)) (fun i _ => m + 1 - (intOf i).toNat)
  case atStart => exact ⟨1, by omega, by omega, rfl, M1.out⟩
  case round =>
    obtain ⟨k, hk1, hk2, rfl, hm⟩ := hrel
    by_cases hlt : k ≤ m
    · go_wp2_with fail
      refine (m_create hm).mono ?_
      rw [Tab.nest_create (k - 1) (by omega), show k - 1 + 1 = k by omega]
      rintro e w2 ⟨rfl, m2⟩
      have M2 := Lib.hid m2
      clear m2 hm
      go_wp2
      go_roundw
      case rel => exact ⟨k + 1, by omega, by omega, by go_num, M2.out⟩
      case measure => simp [intOf]; omega
    · rw [show k - 1 = m by omega] at hm
      have M2 := Lib.hid hm
      have hgt : decide (k ≤ m) = false := by simp; omega
      clear hm M1 hk1 hk2 hlt
      go_wp2
      go_loopw [8] (fun i wr => ∃ k : Nat, 1 ≤ k ∧ k ≤ m + 1 ∧ i = .int .i64 (k : Int) ∧ Mine w wr g (Tab.nest m (min (k - 1) 8))) (fun i _ => m + 1 - (intOf i).toNat)
      case atStart => exact ⟨1, by omega, by omega, rfl, M2.out⟩
      case round =>
        obtain ⟨k, hk1, hk2, rfl, hm⟩ := hrel
        by_cases hlt : k ≤ m
        · by_cases h8 : k ≤ 8
          · have hd : decide ((k : Int) ≤ 8) = true := by simp; omega
            have hd' : decide ((8 : Int) < (k : Int)) = false := by simp; omega
            have hc := m_resume hm (k : Int)
            rw [show min (k - 1) 8 = k - 1 by omega, show (Tab.nest m (k - 1)).resume (k : Int) = (0, Tab.nest m (k - 1 + 1)) by
              have h := Tab.nest_resume m (by omega) (k - 1) (by omega) (by omega)
              rw [show ((k - 1 : Nat) : Int) + 1 = (k : Int) by omega] at h
              exact h] at hc
            have HC := Lib.hid hc
            clear hc
            go_wp2_with fail
            refine HC.out.mono ?_
            rintro e w2 ⟨rfl, m2⟩
            rw [show k - 1 + 1 = k by omega] at m2
            have M3 := Lib.hid m2
            clear m2 hm HC
            go_wp2
            go_roundw
            case rel => exact ⟨k + 1, by omega, by omega, by go_num, by rw [show min (k + 1 - 1) 8 = k by omega]; exact M3.out⟩
            case measure => simp [intOf]; omega
          · have hd : decide ((k : Int) ≤ 8) = false := by simp; omega
            have hd' : decide ((8 : Int) < (k : Int)) = true := by simp; omega
            have hc := m_resume hm (k : Int)
            rw [show min (k - 1) 8 = 8 by omega, Tab.nest_full m (by omega) k (by omega) (by omega)] at hc
            have HC := Lib.hid hc
            clear hc
            go_wp2_with fail
            refine HC.out.mono ?_
            rintro e w2 ⟨rfl, m2⟩
            have M3 := Lib.hid m2
            clear m2 hm HC
            go_wp2
            go_roundw
            case rel => exact ⟨k + 1, by omega, by omega, by go_num, by rw [show min (k + 1 - 1) 8 = 8 by omega]; exact M3.out⟩
            case measure => simp [intOf]; omega
        · rw [show k - 1 = m by omega] at hm
          have M4 := Lib.hid hm
          have hgt' : decide (k ≤ m) = false := by simp; omega
          clear hm M2 hk1 hk2 hlt
          go_wp2
          all_goals
            go_loopw [10] (fun i wr => ∃ k : Nat, k ≤ 8 ∧ k ≤ m ∧ i = .int .i64 (k : Int) ∧ Mine w wr g (Tab.nest m k)) (fun i _ => (intOf i).toNat)
            case atStart => first | exact ⟨8, by omega, by omega, rfl, by have h := M4.out; rw [show min m 8 = 8 by omega] at h; exact h⟩ | exact ⟨m, by omega, by omega, rfl, by have h := M4.out; rw [show min m 8 = m by omega] at h; exact h⟩
            case round =>
              obtain ⟨k, hk1, hk2, rfl, hm⟩ := hrel
              by_cases h0 : 0 < k
              · obtain ⟨j, rfl⟩ : ∃ j, k = j + 1 := ⟨k - 1, by omega⟩
                have hc := m_yield hm
                rw [Tab.nest_yield m (by omega) j (by omega) (by omega)] at hc
                have HC := Lib.hid hc
                clear hc hm
                go_wp2_with fail
                refine HC.out.mono ?_
                rintro e w2 ⟨rfl, m2⟩
                have M5 := Lib.hid m2
                clear m2 HC
                go_wp2
                go_roundw
                case rel => exact ⟨j, by omega, by omega, by go_num, M5.out⟩
                case measure => simp [intOf]
              · obtain rfl : k = 0 := by omega
                obtain ⟨y1, y2, y3⟩ := Tab.nest_main m
                have hc := m_yield hm
                rw [y1] at hc
                have HC := Lib.hid hc
                have Y2 := Lib.hid y2
                have Y3 := Lib.hid y3
                clear hc hm y1 y2 y3 M4 h0
                go_wp2_with fail
                refine HC.out.mono ?_
                rintro e w2 ⟨rfl, m2⟩
                clear HC
                have hc := m_end m2 true
                rw [Y2.out] at hc
                have HC := Lib.hid hc
                clear hc m2
                go_wp2_with fail
                refine HC.out.mono ?_
                rintro e w3 ⟨rfl, m3⟩
                clear HC
                have hc := m_running m3
                rw [Y3.out] at hc
                have HC := Lib.hid hc
                have M6 := Lib.hid m3
                clear hc m3
                go_wp2_with fail
                refine HC.out.mono ?_
                rintro e w4 ⟨rfl, rfl⟩
                clear HC
                go_wp2_with fail
                refine (lives_any _).mono ?_
                rintro e w4 ⟨rfl, hk⟩
                have HK := Lib.hid hk
                clear hk
                go_wp2
                go_ret
                exact ⟨rfl, M6.out.kept.trans HK.out (fun _ _ h => h)⟩

end Go.Proofs.Ytmedmjngehkmoaa
