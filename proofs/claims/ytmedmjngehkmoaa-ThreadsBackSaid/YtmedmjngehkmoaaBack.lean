/- What is proved here: ThreadsBack returns true for every list of calls and every number. Condition: the argument lies in memory as a list of calls. -/
import Derived.Test.YtmedmjngehkmoaaPlays
import Derived.Test.YtmedmjngehkmoaaClose
import Derived.Test.YtmedmjngehkmoaaPB
namespace Go.Proofs.Ytmedmjngehkmoaa
open Go.RowKit
namespace Tab

/-- The ways of Resume, and what a Yield after it leaves. -/
theorem resume_ways {t : Tab} (hI : t.Inv) (id : Int) :
    ((t.resume id).1 ≠ 0 ∧ (t.resume id).2 = t) ∨
    ∃ t' t'' : Tab, t.resume id = (0, t') ∧ t.status id = ⟨#[115, 117, 115, 112, 101, 110, 100, 101, 100]⟩ ∧ (t'.now : Int) = id ∧ t'.status (t.now : Int) = ⟨#[110, 111, 114, 109, 97, 108]⟩ ∧ t'.status id = ⟨#[114, 117, 110, 110, 105, 110, 103]⟩ ∧
      t'.chain.length = t.chain.length + 1 ∧ t'.yld = ((t.now, 0), t'') ∧ t''.now = t.now ∧ t''.status id = ⟨#[115, 117, 115, 112, 101, 110, 100, 101, 100]⟩ ∧ t''.status (t.now : Int) = ⟨#[114, 117, 110, 110, 105, 110, 103]⟩ ∧ t''.chain = t.chain := by
  unfold resume
  by_cases hr : id < 0 ∨ (t.sts.length : Int) ≤ id
  · rw [if_pos hr]; exact .inl ⟨by simp, rfl⟩
  rw [if_neg hr]
  obtain ⟨i, rfl⟩ := Int.eq_ofNat_of_zero_le (by omega : 0 ≤ id)
  have hi : i < t.sts.length := by omega
  rw [Int.toNat_natCast]
  by_cases h3 : 3 ≤ t.st i
  · rw [if_pos h3]; exact .inl ⟨by simp, rfl⟩
  rw [if_neg h3]
  by_cases h0 : t.st i ≠ 0
  · rw [if_pos h0]; exact .inl ⟨by simp, rfl⟩
  rw [if_neg h0]
  by_cases h9 : 9 ≤ t.chain.length
  · rw [if_pos h9]; exact .inl ⟨by simp, rfl⟩
  rw [if_neg h9]
  have h0' : t.st i = 0 := by omega
  have hn := hI.not_chain hi (by omega) (by omega)
  have hnow := hI.now_lt
  have hhead := hI.now_eq
  have hne : t.now ≠ i := by
    intro e
    apply hn
    rw [← e]
    exact List.mem_of_mem_head? (by rw [hhead]; rfl)
  have hi0 : i ≠ 0 := by
    rintro rfl
    apply hn
    exact List.mem_of_getLast? hI.last
  obtain ⟨t', ht'⟩ : ∃ t' : Tab, t' = ⟨(t.sts.set t.now 2).set i 1, i :: t.chain⟩ := ⟨_, rfl⟩
  have hlen' : t'.sts.length = t.sts.length := by rw [ht']; simp
  have s1 : t'.st t.now = 2 := by rw [ht', st_set, if_neg (by simp; intro e; exact absurd e.symm hne), st_set, if_pos ⟨rfl, hnow⟩]
  have s2 : t'.st i = 1 := by rw [ht', st_set, if_pos ⟨rfl, by simp; exact hi⟩]
  have n' : t'.now = i := by rw [ht']; rfl
  obtain ⟨t'', ht''⟩ : ∃ t'' : Tab, t'' = ⟨(t'.sts.set i 0).set t.now 1, t.chain⟩ := ⟨_, rfl⟩
  have hback : t'.back 0 = t'' := by
    unfold back
    rw [n', ht'']
    have : t'.chain.tail = t.chain := by rw [ht']; rfl
    rw [this]
    have : t.chain.headD 0 = t.now := rfl
    rw [this]
  have u1 : t''.st t.now = 1 := by rw [ht'', st_set, if_pos ⟨rfl, by simp; omega⟩]
  have u2 : t''.st i = 0 := by rw [ht'', st_set, if_neg (by simp [hne]), st_set, if_pos ⟨rfl, by omega⟩]
  have hlen'' : t''.sts.length = t.sts.length := by rw [ht'']; simp [hlen']
  have n'' : t''.now = t.now := by rw [ht'']; rfl
  refine .inr ⟨t', t'', by rw [ht'], ?_, by rw [n'], ?_, ?_, by rw [ht']; simp, ?_, n'', ?_, ?_, by rw [ht'']⟩
  · rw [status_in hi, h0']; rfl
  · rw [status_in (by omega), s1]; rfl
  · rw [status_in (by omega), s2]; rfl
  · unfold yld
    rw [if_neg (by rw [n']; exact hi0), hback, n'']
  · rw [status_in (by omega), u2]; rfl
  · rw [status_in (by omega), u1]; rfl
end Tab

/-- The row of a chain stays as it is while only the table's own blocks change. -/
theorem Fresh.aside {w1 w2 w3 : World} {B : Nat → Prop} {xs : List Nat} {v : Value} (h : Fresh w1 xs v w2) (hB : ∀ k, w1.heap.size ≤ k → ¬ B k) (hk : Kept B w2 w3) : Holds w3 v xs := by
  obtain ⟨r, cap, h1, h2, h3, _⟩ := h
  exact ⟨r, cap, h1, row_kept h2 hk (hB r h3)⟩

set_option maxRecDepth 100000 in
set_option maxHeartbeats 4000000 in
theorem back_walk (w : World) (A : Option Addr) (n c : Nat) (xs : List Tab.Op) (ho : Ops w A n xs) (id : Int) :
    Calls Try.prog 5 #[.slice A n c, .int .i64 id] w fun e w' => e = .returned (.bool true) ∧ Kept (fun _ => False) w w' := by
  have HO := Lib.hid ho
  clear ho
  by_cases hn : 300 < n
  · have hb : decide ((300 : Int) < (n : Int)) = true := by simp; omega
    clear hn
    go_enter Try.func5, Try.ntmps5
    go_wp2_with fail
    refine (lives_any _).mono ?_
    rintro e w1 ⟨rfl, hk⟩
    have HK := Lib.hid hk
    clear hk
    go_wp2
    go_ret
    exact ⟨rfl, HK.out⟩
  · have hb : decide ((300 : Int) < (n : Int)) = false := by simp; omega
    have hm := made_any w A n c xs HO.out (by omega)
    generalize Tab.init.run xs = t at hm
    have HM := Lib.hid hm
    clear hn hm
    go_enter Try.func5, Try.ntmps5
    go_wp2_with fail
    refine HM.out.mono ?_
    rintro e w1 ⟨g, rfl, m1⟩
    clear HM
    have HSH := Lib.hid m1.inv.short
    go_wp2_with fail
    refine (m_running m1).mono ?_
    rintro e w2 ⟨rfl, rfl⟩
    go_wp2_with fail
    refine (m_status m1 id).mono ?_
    rintro e w2 ⟨rfl, rfl⟩
    go_wp2_with fail
    refine (m_chain m1).mono ?_
    rintro e w2 ⟨⟨v1, rfl, f1⟩, _⟩
    obtain ⟨B, m2, hB, hout⟩ := m1.rebase f1.kept
    have HA := Lib.hid (fun (w3 : World) => Fresh.aside (w3 := w3) f1 hB)
    have HOUT := Lib.hid hout
    have HV : Hid (∃ a cap, v1 = .slice a t.chain.length cap) := by
      obtain ⟨r, cap, h1, _⟩ := f1
      exact ⟨_, cap, h1⟩
    clear m1 hB hout f1
    rcases Tab.resume_ways m2.inv id with ⟨e1, e2⟩ | ⟨t', t'', e1, e2, e3, e4, e5, e6, e7, e8, e9, e10, e11⟩
    · have hr := pb_resume m2 id
      rw [e2] at hr
      have HR := Lib.hid hr
      have hd : (((t.resume id).1 : Int) != 0) = true := by simp; omega
      clear e1 e2 hr
      go_wp2_with fail
      refine HR.out.mono ?_
      rintro e w3 ⟨rfl, m3⟩
      clear HR
      go_wp2_with fail
      refine (pb_running m3).mono ?_
      rintro e w4 ⟨rfl, rfl⟩
      go_wp2_with fail
      refine (pb_status m3 id).mono ?_
      rintro e w4 ⟨rfl, rfl⟩
      go_wp2_with fail
      refine (pb_chain m3).mono ?_
      rintro e w4 ⟨⟨v2, rfl, f2⟩, m4⟩
      have hi := ints_same w4 v2 v1 t.chain f2.holds (HA.out _ m4.kept) (by have := HSH.out; omega)
      have HI := Lib.hid hi
      have M4 := Lib.hid m4
      clear hi f2 m3 m4 m2
      go_wp2_with fail
      refine HI.out.mono ?_
      rintro e w5 ⟨rfl, k5⟩
      have K5 := Lib.hid k5
      clear k5 HI
      go_wp2_with fail
      refine (lives_any _).mono ?_
      rintro e w6 ⟨rfl, k6⟩
      have K6 := Lib.hid k6
      clear k6
      go_wp2
      go_ret
      exact ⟨rfl, ((HOUT.out _ _ M4.out).kept.trans K5.out (fun _ _ h => h)).trans K6.out (fun _ _ h => h)⟩
    · have hr := pb_resume m2 id
      rw [e1] at hr
      have HR := Lib.hid hr
      have E2 := Lib.hid e2
      have E3 := Lib.hid e3
      have E4 := Lib.hid e4
      have E5 := Lib.hid e5
      have E6 := Lib.hid e6
      have E7 := Lib.hid e7
      have E8 := Lib.hid e8
      have E9 := Lib.hid e9
      have E10 := Lib.hid e10
      have E11 := Lib.hid e11
      rw [e2]
      clear hr e1 e2 e3 e4 e5 e6 e7 e8 e9 e10 e11 m2
      go_wp2_with fail
      refine HR.out.mono ?_
      rintro e w3 ⟨rfl, m3⟩
      clear HR
      have hq := pb_running m3
      rw [E3.out] at hq
      have HQ := Lib.hid hq
      clear hq
      go_wp2_with fail
      refine HQ.out.mono ?_
      rintro e w4 ⟨rfl, rfl⟩
      clear HQ
      have hq := pb_status m3 (t.now : Int)
      rw [E4.out] at hq
      have HQ := Lib.hid hq
      clear hq
      go_wp2_with fail
      refine HQ.out.mono ?_
      rintro e w4 ⟨rfl, rfl⟩
      clear HQ
      have hq := pb_status m3 id
      rw [E5.out] at hq
      have HQ := Lib.hid hq
      clear hq
      go_wp2_with fail
      refine HQ.out.mono ?_
      rintro e w4 ⟨rfl, rfl⟩
      clear HQ
      go_wp2_with fail
      refine (pb_chain m3).mono ?_
      rintro e w4 ⟨⟨v2, rfl, f2⟩, m4⟩
      obtain ⟨a1, cap1, hv1⟩ := HV.out
      obtain ⟨r2, cap2, hv2, _⟩ := f2
      rw [E6.out] at hv2
      have hl9 := HSH.out
      rw [hv2, hv1]
      have HV1 := Lib.hid hv1
      clear hv1 hv2 HV m3
      go_wp2_with fail
      have hq := pb_yield m4
      rw [E7.out] at hq
      have HQ := Lib.hid hq
      clear hq m4
      refine HQ.out.mono ?_
      rintro e w5 ⟨rfl, m5⟩
      clear HQ
      have hq := pb_running m5
      rw [E8.out] at hq
      have HQ := Lib.hid hq
      clear hq
      go_wp2_with fail
      refine HQ.out.mono ?_
      rintro e w6 ⟨rfl, rfl⟩
      clear HQ
      have hq := pb_status m5 id
      rw [E9.out] at hq
      have HQ := Lib.hid hq
      clear hq
      go_wp2_with fail
      refine HQ.out.mono ?_
      rintro e w6 ⟨rfl, rfl⟩
      clear HQ
      have hq := pb_status m5 (t.now : Int)
      rw [E10.out] at hq
      have HQ := Lib.hid hq
      clear hq
      go_wp2_with fail
      refine HQ.out.mono ?_
      rintro e w6 ⟨rfl, rfl⟩
      clear HQ
      go_wp2_with fail
      refine (pb_chain m5).mono ?_
      rintro e w6 ⟨⟨v3, rfl, f3⟩, m6⟩
      rw [E11.out] at f3
      have hi := ints_same w6 v3 v1 t.chain f3.holds (HA.out _ m6.kept) (by have := HSH.out; omega)
      rw [HV1.out] at hi
      have HI := Lib.hid hi
      have M6 := Lib.hid m6
      clear hi f3 m5 m6
      go_wp2_with fail
      refine HI.out.mono ?_
      rintro e w7 ⟨rfl, k7⟩
      have K7 := Lib.hid k7
      clear k7 HI
      go_wp2_with fail
      refine (lives_any _).mono ?_
      rintro e w8 ⟨rfl, k8⟩
      have K8 := Lib.hid k8
      clear k8
      go_wp2
      go_ret
      exact ⟨rfl, ((HOUT.out _ _ M6.out).kept.trans K7.out (fun _ _ h => h)).trans K8.out (fun _ _ h => h)⟩
end Go.Proofs.Ytmedmjngehkmoaa
