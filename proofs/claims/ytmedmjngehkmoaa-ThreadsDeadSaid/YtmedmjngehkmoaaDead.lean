/- What is proved here: ThreadsDead returns true for every input. Condition: the arguments lie in memory as lists of calls. -/
import Derived.Test.YtmedmjngehkmoaaPlays
import Derived.Test.YtmedmjngehkmoaaClose
namespace Go.Proofs.Ytmedmjngehkmoaa
open Go.RowKit
namespace Tab

theorem len_next (t : Tab) (x : Op) : t.sts.length ≤ (t.next x).sts.length ∧ (t.next x).sts.length ≤ t.sts.length + 1 := by
  have hb : ∀ s, (t.back s).sts.length = t.sts.length := fun s => by simp [back]
  unfold next create resume yld fin close
  repeat' split
  all_goals first | (simp; done) | (simp [hb]; done) | simp [back]

theorem len_run (t : Tab) (xs : List Op) : (t.run xs).sts.length ≤ t.sts.length + xs.length := by
  unfold run
  induction xs generalizing t with
  | nil => simp
  | cons x xs ih =>
    simp only [List.foldl_cons, List.length_cons]
    have h1 := ih (t.next x)
    have h2 := (t.len_next x).2
    omega

theorem inv_run {t : Tab} (h : t.Inv) (xs : List Op) : (t.run xs).Inv := by
  unfold run
  induction xs generalizing t with
  | nil => exact h
  | cons x xs ih => exact ih (h.next x)

theorem dead_back {t : Tab} (hI : t.Inv) {i : Nat} (hi : i < t.sts.length) (hd : 3 ≤ t.st i) (hn : t.now ≠ 0) (s : Nat) : 3 ≤ (t.back s).st i := by
  obtain ⟨a, b, c, e, ha⟩ := hI.two hn
  have h1 : t.now ≠ i := by
    rintro h
    have := (hI.run i hi).2 (by rw [hI.now_eq, h])
    omega
  have h2 : b ≠ i := by
    rintro rfl
    have := (hI.nor b hi).2 (by rw [e]; simp)
    omega
  unfold back
  rw [st_set, if_neg (by rw [e]; simp [h2]), st_set, if_neg (by simp [h1])]
  exact hd

theorem dead_next {t : Tab} (hI : t.Inv) {i : Nat} (hi : i < t.sts.length) (hd : 3 ≤ t.st i) (x : Op) : 3 ≤ (t.next x).st i := by
  unfold next
  split
  · unfold create
    split
    · exact hd
    · unfold st at hd ⊢
      rw [List.getElem?_append_left hi]
      exact hd
  split
  · unfold resume
    split
    · exact hd
    split
    · exact hd
    split
    · exact hd
    split
    · exact hd
    · rename_i h0 _
      have hne : t.now ≠ i := by
        intro e
        have := (hI.run i hi).2 (by rw [hI.now_eq, e])
        omega
      have hne2 : x.id.toNat ≠ i := by
        intro e
        rw [e] at h0
        omega
      rw [st_set, if_neg (by simp [hne2]), st_set, if_neg (by simp [hne])]
      exact hd
  split
  · unfold yld
    split
    · exact hd
    · exact dead_back hI hi hd (by assumption) _
  split
  · unfold fin
    split
    · exact hd
    · exact dead_back hI hi hd (by assumption) _
  · unfold close
    split
    · exact hd
    split
    · exact hd
    split
    · exact hd
    · rw [st_set]
      split
      · omega
      · exact hd

/-- A coroutine is created, resumed and ended: what the calls answer. -/
theorem dead_ways {t : Tab} (hI : t.Inv) (hs : t.sts.length < 65536) (b : Bool) :
    ∃ t1 : Tab, t.create = ((t.sts.length, 0), t1) ∧ t1.Inv ∧ t1.status (t.sts.length : Int) = ⟨#[115, 117, 115, 112, 101, 110, 100, 101, 100]⟩ ∧
      ((t1.resume (t.sts.length : Int) = (17, t1) ∧ t1.chain.length = 9) ∨
       ∃ t2 t3 t4 : Tab, t1.resume (t.sts.length : Int) = (0, t2) ∧ (t2.fin b).1.2 = 0 ∧ (t2.fin b).2 = t3 ∧ t3.status (t.sts.length : Int) = ⟨#[100, 101, 97, 100]⟩ ∧ t3.resume (t.sts.length : Int) = (19, t3) ∧
         t3.close (t.sts.length : Int) = (if b then 0 else 19, t4) ∧ t4.close (t.sts.length : Int) = (19, t4) ∧ t.sts.length < t4.sts.length ∧ 3 ≤ t4.st t.sts.length) := by
  obtain ⟨L, hL⟩ : ∃ L, L = t.sts.length := ⟨_, rfl⟩
  rw [← hL] at hs ⊢
  have hc : t.create = ((L, 0), ⟨t.sts ++ [0], t.chain⟩) := by unfold create; rw [if_neg (by omega), hL]
  obtain ⟨t1, ht1⟩ : ∃ t1 : Tab, t1 = ⟨t.sts ++ [0], t.chain⟩ := ⟨_, rfl⟩
  have hI1 : t1.Inv := by have := hI.create; rw [hc] at this; rw [ht1]; exact this
  have l1 : t1.sts.length = L + 1 := by rw [ht1, hL]; simp
  have s1 : t1.st L = 0 := by rw [ht1, hL]; unfold st; simp
  have x1 : t1.status (L : Int) = ⟨#[115, 117, 115, 112, 101, 110, 100, 101, 100]⟩ := by rw [status_in (by omega), s1]; rfl
  refine ⟨t1, by rw [ht1]; exact hc, hI1, x1, ?_⟩
  have hn1 := hI1.not_chain (i := L) (by omega) (by omega) (by omega)
  have hsh := hI1.short
  by_cases h9 : 9 ≤ t1.chain.length
  · refine .inl ⟨?_, by omega⟩
    unfold resume
    rw [if_neg (by omega), Int.toNat_natCast, if_neg (by omega), if_neg (by omega), if_pos h9]
  · refine .inr ?_
    have hr : t1.resume (L : Int) = (0, ⟨(t1.sts.set t1.now 2).set L 1, L :: t1.chain⟩) := by
      unfold resume
      rw [if_neg (by omega), Int.toNat_natCast, if_neg (by omega), if_neg (by omega), if_neg h9]
    obtain ⟨t2, ht2⟩ : ∃ t2 : Tab, t2 = ⟨(t1.sts.set t1.now 2).set L 1, L :: t1.chain⟩ := ⟨_, rfl⟩
    have hI2 : t2.Inv := by have := hI1.resume (L : Int); rw [hr] at this; rw [ht2]; exact this
    have l2 : t2.sts.length = L + 1 := by rw [ht2]; simp [l1]
    have n2 : t2.now = L := by rw [ht2]; rfl
    have L0 : L ≠ 0 := by have := hI.pos; omega
    have hmem : t1.now ∈ t1.chain := List.mem_of_mem_head? (by rw [hI1.now_eq]; rfl)
    have hne : t1.now ≠ L := fun e => hn1 (by rw [← e]; exact hmem)
    have hb2 : ∀ s, t2.back s = ⟨(t2.sts.set L s).set t1.now 1, t1.chain⟩ := by
      intro s
      unfold back
      rw [n2]
      have : t2.chain.tail = t1.chain := by rw [ht2]; rfl
      rw [this]
      rfl
    have hfin : t2.fin b = (((t2.back (if b then 4 else 3)).now, 0), t2.back (if b then 4 else 3)) := by
      unfold fin
      rw [if_neg (by rw [n2]; exact L0)]
    obtain ⟨s, hse⟩ : ∃ s : Nat, s = if b then 4 else 3 := ⟨_, rfl⟩
    rw [← hse] at hfin
    obtain ⟨t3, ht3⟩ : ∃ t3 : Tab, t3 = t2.back s := ⟨_, rfl⟩
    have hs34 : s = 3 ∨ s = 4 := by cases b <;> simp at hse <;> omega
    have l3 : t3.sts.length = L + 1 := by rw [ht3, hb2]; simp [l2]
    have s3 : t3.st L = s := by rw [ht3, hb2, st_set, if_neg (by simp [hne]), st_set, if_pos ⟨rfl, by omega⟩]
    have x3 : t3.status (L : Int) = ⟨#[100, 101, 97, 100]⟩ := by rw [status_in (by omega), s3, statusOf_ge (by omega)]
    have r3 : t3.resume (L : Int) = (19, t3) := by
      unfold resume
      rw [if_neg (by omega), Int.toNat_natCast, if_pos (by omega)]
    cases b
    · simp at hse
      subst hse
      have c3 : t3.close (L : Int) = (19, t3) := by
        unfold close
        rw [if_neg (by omega), Int.toNat_natCast, if_neg (by omega), if_pos (by omega)]
      exact ⟨t2, t3, t3, by rw [hr, ht2], by rw [hfin], by rw [hfin, ht3], x3, r3, c3, c3, by omega, by omega⟩
    · simp at hse
      subst hse
      have c3 : t3.close (L : Int) = (0, ⟨t3.sts.set L 5, t3.chain⟩) := by
        unfold close
        rw [if_neg (by omega), Int.toNat_natCast, if_neg (by omega), if_neg (by omega)]
      obtain ⟨t4, ht4⟩ : ∃ t4 : Tab, t4 = ⟨t3.sts.set L 5, t3.chain⟩ := ⟨_, rfl⟩
      have l4 : t4.sts.length = L + 1 := by rw [ht4]; simp [l3]
      have s4 : t4.st L = 5 := by rw [ht4, st_set, if_pos ⟨rfl, by omega⟩]
      have c4 : t4.close (L : Int) = (19, t4) := by
        unfold close
        rw [if_neg (by omega), Int.toNat_natCast, if_neg (by omega), if_pos (by omega)]
      exact ⟨t2, t3, t4, by rw [hr, ht2], by rw [hfin], by rw [hfin, ht3], x3, r3, by rw [c3, ht4]; rfl, c4, by omega, by omega⟩
end Tab

set_option maxRecDepth 100000 in
set_option maxHeartbeats 4000000 in
theorem dead_walk (w : World) (A : Option Addr) (n c : Nat) (xs : List Tab.Op) (ho : Ops w A n xs) (b : Bool) (A2 : Option Addr) (n2 c2 : Nat) (ys : List Tab.Op) (ho2 : Ops w A2 n2 ys) :
    Calls Try.prog 6 #[.slice A n c, .bool b, .slice A2 n2 c2] w fun e w' => e = .returned (.bool true) ∧ Kept (fun _ => False) w w' := by
  have HO := Lib.hid ho
  have HO2 := Lib.hid ho2
  clear ho ho2
  by_cases hn : 200 < n
  · have hb : decide ((200 : Int) < (n : Int)) = true := by simp; omega
    clear hn
    go_enter Try.func6, Try.ntmps6
    go_wp2_with fail
    refine (lives_any _).mono ?_
    rintro e w1 ⟨rfl, hk⟩
    have HK := Lib.hid hk
    clear hk
    go_wp2
    go_ret
    exact ⟨rfl, HK.out⟩
  by_cases hm : 100 < n2
  · have hb : decide ((200 : Int) < (n : Int)) = false := by simp; omega
    have hb2 : decide ((100 : Int) < (n2 : Int)) = true := by simp; omega
    clear hn hm
    go_enter Try.func6, Try.ntmps6
    go_wp2_with fail
    refine (lives_any _).mono ?_
    rintro e w1 ⟨rfl, hk⟩
    have HK := Lib.hid hk
    clear hk
    go_wp2
    go_ret
    exact ⟨rfl, HK.out⟩
  have hb : decide ((200 : Int) < (n : Int)) = false := by simp; omega
  have hb2 : decide ((100 : Int) < (n2 : Int)) = false := by simp; omega
  have hn2 : n2 ≤ 100 := by omega
  have hmd := made_any w A n c xs HO.out (by omega)
  have hlen := Tab.len_run Tab.init xs
  rw [HO.out.len] at hlen
  have hlt : (Tab.init.run xs).sts.length < 65536 := by
    have : Tab.init.sts.length = 1 := rfl
    omega
  have hways := Tab.dead_ways (Tab.inv_run Tab.inv_init xs) hlt b
  clear hlen hn hm
  generalize Tab.init.run xs = t at hmd hlt hways
  generalize t.sts.length = L at hways hlt
  have HM := Lib.hid hmd
  obtain ⟨t1, e1, i1, e2, hway⟩ := hways
  have HW := Lib.hid hway
  have E2 := Lib.hid e2
  have E1 := Lib.hid e1
  have HLT := Lib.hid hlt
  clear hmd hway e1 e2 i1 hlt
  go_enter Try.func6, Try.ntmps6
  go_wp2_with fail
  refine HM.out.mono ?_
  rintro e w1 ⟨g, rfl, m1⟩
  clear HM
  have hq := m_create m1
  rw [E1.out] at hq
  have HQ := Lib.hid hq
  clear hq m1
  go_wp2_with fail
  refine HQ.out.mono ?_
  rintro e w2 ⟨rfl, m2⟩
  clear HQ
  have hq := m_status m2 (L : Int)
  rw [E2.out] at hq
  have HQ := Lib.hid hq
  clear hq
  go_wp2_with fail
  refine HQ.out.mono ?_
  rintro e w3 ⟨rfl, rfl⟩
  clear HQ
  have hq := m_resume m2 (L : Int)
  rcases HW.out with ⟨q1, q2⟩ | ⟨t2, t3, t4, q1, q2, q3, q4, q5, q6, q7, q8, q9⟩
  · rw [q1] at hq
    have HQ := Lib.hid hq
    have Q2 := Lib.hid q2
    clear hq q1 q2 HW m2
    go_wp2_with fail
    refine HQ.out.mono ?_
    rintro e w3 ⟨rfl, m3⟩
    clear HQ
    go_wp2_with fail
    refine (m_chain m3).mono ?_
    rintro e w4 ⟨⟨v1, rfl, f1⟩, m4⟩
    obtain ⟨r, cap, hv, _⟩ := f1
    rw [Q2.out] at hv
    rw [hv]
    have M4 := Lib.hid m4
    clear hv m3 m4
    go_wp2_with fail
    refine (lives_any _).mono ?_
    rintro e w5 ⟨rfl, k5⟩
    have K5 := Lib.hid k5
    clear k5
    go_wp2
    go_ret
    exact ⟨rfl, M4.out.kept.trans K5.out (fun _ _ h => h)⟩
  · rw [q1] at hq
    have HQ := Lib.hid hq
    have Q2 := Lib.hid q2
    have Q3 := Lib.hid q3
    have Q4 := Lib.hid q4
    have Q5 := Lib.hid q5
    have Q6 := Lib.hid q6
    have Q7 := Lib.hid q7
    have Q8 := Lib.hid q8
    have Q9 := Lib.hid q9
    clear hq q1 q2 q3 q4 q5 q6 q7 q8 q9 HW m2
    go_wp2_with fail
    refine HQ.out.mono ?_
    rintro e w3 ⟨rfl, m3⟩
    clear HQ
    have hq := m_end m3 b
    rw [Q2.out, Q3.out] at hq
    have HQ := Lib.hid hq
    clear hq m3
    go_wp2_with fail
    refine HQ.out.mono ?_
    rintro e w4 ⟨rfl, m4⟩
    clear HQ
    have hq := m_status m4 (L : Int)
    rw [Q4.out] at hq
    have HQ := Lib.hid hq
    clear hq
    go_wp2_with fail
    refine HQ.out.mono ?_
    rintro e w5 ⟨rfl, rfl⟩
    clear HQ
    have hq := m_resume m4 (L : Int)
    rw [Q5.out] at hq
    have HQ := Lib.hid hq
    clear hq m4
    go_wp2_with fail
    refine HQ.out.mono ?_
    rintro e w5 ⟨rfl, m5⟩
    clear HQ
    have hq := m_close m5 (L : Int)
    rw [Q6.out] at hq
    have HQ := Lib.hid hq
    clear hq m5
    cases b
    all_goals
      go_wp2_with fail
      refine HQ.out.mono ?_
      rintro e w6 ⟨rfl, m6⟩
      clear HQ
      have hq := m_close m6 (L : Int)
      rw [Q7.out] at hq
      have HQ := Lib.hid hq
      clear hq m6
      go_wp2_with fail
      refine HQ.out.mono ?_
      rintro e w7 ⟨rfl, m7⟩
      clear HQ
      have M7 := Lib.hid m7
      clear m7
      go_wp2_with fail
      go_loopw [15] (fun i wr => ∃ k : Nat, k ≤ n2 ∧ i = .int .i64 (k : Int) ∧ ∃ t5 : Tab, Mine w wr g t5 ∧ L < t5.sts.length ∧ 3 ≤ t5.st L) (fun i _ => n2 - (intOf i).toNat)
      case atStart => exact ⟨0, Nat.zero_le _, rfl, t4, M7.out, Q8.out, Q9.out⟩
      case round =>
        obtain ⟨k, hk, rfl, t5, m8, hl8, hs8⟩ := hrel
        by_cases hlt : k < n2
        · obtain ⟨b, off, hA, hbl, hcells⟩ := HO2.out.at_ (by omega)
          have hlen := HO2.out.len
          have hxk : ys[k]? = some ys[k] := List.getElem?_eq_getElem (by omega)
          obtain ⟨c0, c1, c2⟩ := hcells k _ hxk
          have hkk := m8.kept
          have HD := Lib.hid (Tab.dead_next m8.inv hl8 hs8 ys[k])
          have HE := Lib.hid (Nat.lt_of_lt_of_le hl8 (t5.len_next ys[k]).1)
          generalize ys[k]'(by omega) = x at *
          have d0 := (hkk.cell (p := ⟨b, off + k * 3, none⟩) hbl (by simp)).trans c0
          have d1 := (hkk.cell (p := ⟨b, off + k * 3 + 1, none⟩) hbl (by simp)).trans c1
          have d2 := (hkk.cell (p := ⟨b, off + k * 3 + 2, none⟩) hbl (by simp)).trans c2
          have hbl2 : b < wr.heap.size := Nat.lt_of_lt_of_le hbl hkk.size
          have CC := Lib.hid (And.intro c0 (And.intro c1 c2))
          subst hA
          have b0 : (0 : Int) ≤ (k : Int) := by omega
          have b1 : (k : Int) < (n2 : Int) := by omega
          clear hkk c0 c1 c2 hcells hxk hlen HO2 hl8 hs8 M7 Q8 Q9 Q7 Q6 Q5 Q4 Q3 Q2 E1 E2 HLT
          have md : Mine w wr.drew g t5 := m8.later ((Kept.refl _ wr).drew)
          go_wp2_with fail
          go_region_held3 (fun w' => w'.cell? ⟨b, off + k * 3, none⟩ = some (.int .i64 x.kind) ∧ w'.cell? ⟨b, off + k * 3 + 1, none⟩ = some (.int .i64 x.id) ∧ w'.cell? ⟨b, off + k * 3 + 2, none⟩ = some (.bool x.failed)) (first | go_keep | exact hcc)
            (first
              | (go_at_call 23; refine (q_new _).mono ?_; rintro e w8 ⟨rfl, p8⟩; have hk8 : Kept (fun _ => False) wr w8 := (by obtain ⟨_, _, k8, _⟩ := p8; exact ((Kept.refl _ wr).drew).trans k8 (fun _ _ h => h)); have hcc : w8.cell? ⟨b, off + k * 3, none⟩ = some (.int .i64 x.kind) ∧ w8.cell? ⟨b, off + k * 3 + 1, none⟩ = some (.int .i64 x.id) ∧ w8.cell? ⟨b, off + k * 3 + 2, none⟩ = some (.bool x.failed) := ⟨(hk8.cell hbl2 (by simp)).trans d0, (hk8.cell hbl2 (by simp)).trans d1, (hk8.cell hbl2 (by simp)).trans d2⟩)
              | (go_at_call 22; refine (step_any (both_new md p8 Tab.inv_init) x).mono ?_; rintro e w9 ⟨rfl, h9⟩; have hk9 := h9.kept; have hcc : w9.cell? ⟨b, off + k * 3, none⟩ = some (.int .i64 x.kind) ∧ w9.cell? ⟨b, off + k * 3 + 1, none⟩ = some (.int .i64 x.id) ∧ w9.cell? ⟨b, off + k * 3 + 2, none⟩ = some (.bool x.failed) := ⟨(hk9.cell hbl (by simp)).trans CC.out.1, (hk9.cell hbl (by simp)).trans CC.out.2.1, (hk9.cell hbl (by simp)).trans CC.out.2.2⟩))
          have m9 := h9.mine
          have hq := m_status m9 (L : Int)
          rw [Tab.status_in HE.out, Tab.statusOf_ge HD.out] at hq
          have HQ := Lib.hid hq
          have M9 := Lib.hid m9
          clear hq m9 h9 hk9 hcc d0 d1 d2 md m8
          go_wp2_with fail
          refine HQ.out.mono ?_
          rintro e w10 ⟨rfl, rfl⟩
          clear HQ
          go_wp2
          go_roundw
          case rel => exact ⟨k + 1, by omega, by go_num, _, M9.out, HE.out, HD.out⟩
          case measure => simp [intOf]; omega
        · have hge : n2 ≤ k := by omega
          have M8 := Lib.hid m8
          clear m8 hlt
          go_wp2_with fail
          refine (lives_any _).mono ?_
          rintro e w9 ⟨rfl, k9⟩
          have K9 := Lib.hid k9
          clear k9
          go_wp2
          go_ret
          exact ⟨rfl, M8.out.kept.trans K9.out (fun _ _ h => h)⟩
end Go.Proofs.Ytmedmjngehkmoaa
