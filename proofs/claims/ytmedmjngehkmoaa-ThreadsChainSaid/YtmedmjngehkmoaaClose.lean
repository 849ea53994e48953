/- What is proved here: ThreadsClose returns true for every list of calls and every number. Condition: the argument lies in memory as a list of calls. -/
import Derived.Test.YtmedmjngehkmoaaMade
namespace Go.Proofs.Ytmedmjngehkmoaa
open Go.RowKit

def bSusp : ByteArray := ⟨#[115, 117, 115, 112, 101, 110, 100, 101, 100]⟩
def bRun : ByteArray := ⟨#[114, 117, 110, 110, 105, 110, 103]⟩
def bNorm : ByteArray := ⟨#[110, 111, 114, 109, 97, 108]⟩
def bDead : ByteArray := ⟨#[100, 101, 97, 100]⟩

namespace Tab
theorem status_in {t : Tab} {i : Nat} (hi : i < t.sts.length) : t.status (i : Int) = W.statusOf (t.st i) := by
  unfold status
  rw [if_neg (by omega), Int.toNat_natCast]
theorem status_out {t : Tab} {id : Int} (hi : id < 0 ∨ (t.sts.length : Int) ≤ id) : t.status id = ⟨#[]⟩ := by
  unfold status
  rw [if_pos hi]
theorem statusOf_ge {s : Nat} (h : 3 ≤ s) : W.statusOf s = ⟨#[100, 101, 97, 100]⟩ := by
  unfold W.statusOf
  rw [if_neg (by omega), if_neg (by omega), if_neg (by omega)]

/-- The ways of Close. -/
theorem close_ways {t : Tab} (hI : t.Inv) (id : Int) :
    (t.status id = ⟨#[]⟩ ∧ (t.close id).1 = 6) ∨
    (t.status id = ⟨#[115, 117, 115, 112, 101, 110, 100, 101, 100]⟩ ∧ (t.close id).1 = 0 ∧ (t.close id).2.status id = ⟨#[100, 101, 97, 100]⟩ ∧ ((t.close id).2.resume id).1 = 19) ∨
    (t.status id = ⟨#[100, 101, 97, 100]⟩ ∧ (t.close id).1 = 0 ∧ (t.close id).2.status id = ⟨#[100, 101, 97, 100]⟩) ∨
    (t.status id = ⟨#[100, 101, 97, 100]⟩ ∧ (t.close id).1 = 19 ∧ (t.close id).2.status id = ⟨#[100, 101, 97, 100]⟩) ∨
    (t.status id = ⟨#[114, 117, 110, 110, 105, 110, 103]⟩ ∧ (t.close id).1 = 16 ∧ (t.close id).2.status id = ⟨#[114, 117, 110, 110, 105, 110, 103]⟩) ∨
    (t.status id = ⟨#[110, 111, 114, 109, 97, 108]⟩ ∧ (t.close id).1 = 16 ∧ (t.close id).2.status id = ⟨#[110, 111, 114, 109, 97, 108]⟩) := by
  by_cases hr : id < 0 ∨ (t.sts.length : Int) ≤ id
  · exact .inl ⟨status_out hr, by unfold close; rw [if_pos hr]⟩
  obtain ⟨i, rfl⟩ := Int.eq_ofNat_of_zero_le (by omega : 0 ≤ id)
  have hi : i < t.sts.length := by omega
  have hle := hI.le i
  have hc : t.close (i : Int) = if t.st i = 1 ∨ t.st i = 2 then (16, t) else if t.st i = 3 ∨ t.st i = 5 then (19, t) else (0, ⟨t.sts.set i 5, t.chain⟩) := by
    unfold close
    rw [if_neg hr, Int.toNat_natCast]
  have hset : st ⟨t.sts.set i 5, t.chain⟩ i = 5 := by rw [st_set, if_pos ⟨rfl, hi⟩]
  have hss : status ⟨t.sts.set i 5, t.chain⟩ (i : Int) = ⟨#[100, 101, 97, 100]⟩ := by
    rw [status_in (by simp; exact hi), hset]
    rfl
  rw [hc, status_in hi]
  have hcase : t.st i = 0 ∨ t.st i = 1 ∨ t.st i = 2 ∨ t.st i = 3 ∨ t.st i = 4 ∨ t.st i = 5 := by omega
  rcases hcase with h | h | h | h | h | h
  · refine .inr (.inl ?_)
    rw [h]
    refine ⟨rfl, rfl, hss, ?_⟩
    show (resume ⟨t.sts.set i 5, t.chain⟩ (i : Int)).1 = 19
    unfold resume
    rw [if_neg (by simp; omega), Int.toNat_natCast, hset]
    rfl
  · refine .inr (.inr (.inr (.inr (.inl ?_))))
    simp only [h]
    exact ⟨rfl, rfl, by show t.status (i : Int) = _; rw [status_in hi, h]; rfl⟩
  · refine .inr (.inr (.inr (.inr (.inr ?_))))
    simp only [h]
    exact ⟨rfl, rfl, by show t.status (i : Int) = _; rw [status_in hi, h]; rfl⟩
  · refine .inr (.inr (.inr (.inl ?_)))
    simp only [h]
    exact ⟨rfl, rfl, by show t.status (i : Int) = _; rw [status_in hi, h]; rfl⟩
  · refine .inr (.inr (.inl ?_))
    simp only [h]
    exact ⟨rfl, rfl, hss⟩
  · refine .inr (.inr (.inr (.inl ?_)))
    simp only [h]
    exact ⟨rfl, rfl, by show t.status (i : Int) = _; rw [status_in hi, h]; rfl⟩
end Tab

set_option maxHeartbeats 2000000 in
theorem close_walk (w : World) (A : Option Addr) (n c : Nat) (xs : List Tab.Op) (ho : Ops w A n xs) (id : Int) :
    Calls Try.prog 4 #[.slice A n c, .int .i64 id] w fun e w' => e = .returned (.bool true) ∧ Kept (fun _ => False) w w' := by
  have HO := Lib.hid ho
  clear ho
  by_cases hn : 300 < n
  · have hb : decide ((300 : Int) < (n : Int)) = true := by simp; omega
    clear hn
    go_enter Try.func4, Try.ntmps4
    go_wp2_with fail
    refine (lives_any _).mono ?_
    rintro e w1 ⟨rfl, hk⟩
    have HK := Lib.hid hk
    clear hk
    go_wp2
    go_ret
    exact ⟨rfl, HK.out⟩
  · have hb : decide ((300 : Int) < (n : Int)) = false := by simp; omega
    have hm := made_any w A n c xs HO.out (by omega)
    generalize Tab.init.run xs = t at hm
    have HM := Lib.hid hm
    clear hn hm
    go_enter Try.func4, Try.ntmps4
    go_wp2_with fail
    refine HM.out.mono ?_
    rintro e w1 ⟨g, rfl, m1⟩
    clear HM
    go_wp2_with fail
    have hc1 := m_status m1 id
    have hc2 := m_close m1 id
    rcases Tab.close_ways m1.inv id with ⟨e1, e2⟩ | ⟨e1, e2, e3, e4⟩ | ⟨e1, e2, e3⟩ | ⟨e1, e2, e3⟩ | ⟨e1, e2, e3⟩ | ⟨e1, e2, e3⟩
    · rw [e1] at hc1
      rw [e2] at hc2
      have H2 := Lib.hid hc2
      refine hc1.mono ?_
      rintro e w2 ⟨rfl, rfl⟩
      clear hc1 hc2 m1 e1 e2
      go_wp2_with fail
      refine H2.out.mono ?_
      rintro e w3 ⟨rfl, m3⟩
      have M3 := Lib.hid m3
      clear m3 H2
      go_wp2_with fail
      refine (lives_any _).mono ?_
      rintro e w4 ⟨rfl, hk⟩
      have HK := Lib.hid hk
      clear hk
      go_wp2
      go_ret
      exact ⟨rfl, M3.out.kept.trans HK.out (fun _ _ h => h)⟩
    · rw [e1] at hc1
      rw [e2] at hc2
      have H2 := Lib.hid hc2
      have E3 := Lib.hid e3
      have E4 := Lib.hid e4
      refine hc1.mono ?_
      rintro e w2 ⟨rfl, rfl⟩
      clear hc1 hc2 m1 e1 e2 e3 e4
      go_wp2_with fail
      refine H2.out.mono ?_
      rintro e w3 ⟨rfl, m3⟩
      clear H2
      have hs := m_status m3 id
      rw [E3.out] at hs
      have HS := Lib.hid hs
      have hr := m_resume m3 id
      rw [E4.out] at hr
      have HR := Lib.hid hr
      clear hs hr m3
      go_wp2_with fail
      refine HS.out.mono ?_
      rintro e w4 ⟨rfl, rfl⟩
      clear HS
      go_wp2_with fail
      refine HR.out.mono ?_
      rintro e w4 ⟨rfl, m4⟩
      have M4 := Lib.hid m4
      clear HR m4
      go_wp2_with fail
      refine (lives_any _).mono ?_
      rintro e w5 ⟨rfl, hk⟩
      have HK := Lib.hid hk
      clear hk
      go_wp2
      go_ret
      exact ⟨rfl, M4.out.kept.trans HK.out (fun _ _ h => h)⟩
    all_goals
      rw [e1] at hc1
      rw [e2] at hc2
      have H2 := Lib.hid hc2
      have E3 := Lib.hid e3
      refine hc1.mono ?_
      rintro e w2 ⟨rfl, rfl⟩
      clear hc1 hc2 m1 e1 e2 e3
      go_wp2_with fail
      refine H2.out.mono ?_
      rintro e w3 ⟨rfl, m3⟩
      clear H2
      have hs := m_status m3 id
      rw [E3.out] at hs
      have HS := Lib.hid hs
      have M3 := Lib.hid m3
      clear hs m3
      go_wp2_with fail
      refine HS.out.mono ?_
      rintro e w4 ⟨rfl, rfl⟩
      clear HS
      go_wp2_with fail
      refine (lives_any _).mono ?_
      rintro e w4 ⟨rfl, hk⟩
      have HK := Lib.hid hk
      clear hk
      go_wp2
      go_ret
      exact ⟨rfl, M3.out.kept.trans HK.out (fun _ _ h => h)⟩
end Go.Proofs.Ytmedmjngehkmoaa
