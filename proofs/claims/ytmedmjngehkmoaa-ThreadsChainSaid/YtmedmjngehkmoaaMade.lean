/- What is proved here: the contracts of the law's 'made', 'ints' and 'shown'. Condition: the argument lies in memory as a list of calls. -/
import Derived.Test.YtmedmjngehkmoaaStep
import Derived.BigQuiet
import Derived.Deep.QuietTactic
namespace Go.Proofs.Ytmedmjngehkmoaa
open Go.RowKit

/-- The slice with address A and length n reads as the calls xs. -/
structure Ops (w : World) (A : Option Addr) (n : Nat) (xs : List Tab.Op) : Prop where
  len : xs.length = n
  at_ : 0 < n → ∃ b off, A = some ⟨b, off, none⟩ ∧ b < w.heap.size ∧ ∀ i x, xs[i]? = some x → w.cell? ⟨b, off + i * 3, none⟩ = some (.int .i64 x.kind) ∧ w.cell? ⟨b, off + i * 3 + 1, none⟩ = some (.int .i64 x.id) ∧ w.cell? ⟨b, off + i * 3 + 2, none⟩ = some (.bool x.failed)

def Tab.run (t : Tab) (xs : List Tab.Op) : Tab := xs.foldl Tab.next t
theorem Tab.run_snoc (t : Tab) (xs : List Tab.Op) (k : Nat) (h : k < xs.length) : t.run (xs.take (k + 1)) = (t.run (xs.take k)).next xs[k] := by
  unfold Tab.run
  rw [List.take_succ_eq_append_getElem h, List.foldl_append]
  rfl

theorem Both.mine {w wr : World} {g g2 : Nat} {t u : Tab} (h : Both (fun _ => False) w wr g g2 t u) : Mine w wr g t := by
  obtain ⟨F, G, m, n, i, j, d, k, s⟩ := h
  refine ⟨F, m, i, k, fun q hq => ?_⟩
  rcases Nat.lt_or_ge q w.heap.size with hl | hl
  · exact (s q (.inl hq) hl).elim
  · exact hl

theorem both_new {w w1 w2 : World} {g g2 : Nat} {t u : Tab} (h1 : Mine w w1 g t) (h2 : RPost w1 (fun _ => False) g2 u w2) (hu : u.Inv) : Both (fun _ => False) w w2 g g2 t u := by
  obtain ⟨F, m, hI, k, s⟩ := h1
  obtain ⟨G, n, k', s'⟩ := h2
  refine ⟨F, G, m.kept k' (fun _ _ h => h), n, hI, hu, fun i hf hg => ?_, k.trans k' (fun _ _ h => h), fun i hi hlt => ?_⟩
  · rcases s' i hg with h | h
    · exact h
    · have := m.lt i hf; omega
  · rcases hi with h | h
    · have := s i h; omega
    · rcases s' i h with h | h
      · exact h
      · have := k.size; omega

set_option maxHeartbeats 1000000 in
theorem made_any (w : World) (A : Option Addr) (n c : Nat) (xs : List Tab.Op) (ho : Ops w A n xs) (hn : n ≤ 9223372036854775807) :
    Calls Try.prog 17 #[.slice A n c] w fun e w' => (∃ g, e = .returned (.tuple #[.pointer (some ⟨g, 0, none⟩), .bool true]) ∧ Mine w w' g (Tab.init.run xs)) := by
  have HO := Lib.hid ho
  clear ho
  go_enter Try.func17, Try.ntmps17
  go_wp2_with fail
  refine (m_new w).mono ?_
  rintro e w1 ⟨rfl, m1⟩
  generalize w.heap.size + 1 = g at *
  go_wp2_with fail
  refine (q_new w1).mono ?_
  rintro e w2 ⟨rfl, p2⟩
  generalize w1.heap.size + 1 + 1 = g2 at *
  have h2 := Lib.hid (both_new m1 p2 Tab.inv_init)
  clear m1 p2
  go_wp2_with fail
  go_loopw [6] (fun i wr => ∃ k : Nat, k ≤ n ∧ i = .int .i64 (k : Int) ∧ Both (fun _ => False) w wr g g2 (Tab.init.run (xs.take k)) (Tab.init.run (xs.take k))) (fun i _ => n - (intOf i).toNat)
  case atStart => exact ⟨0, Nat.zero_le _, rfl, by simpa [Tab.run] using h2.out⟩
  case round =>
    obtain ⟨k, hk, rfl, hb⟩ := hrel
    by_cases hlt : k < n
    · obtain ⟨b, off, hA, hbl, hcells⟩ := HO.out.at_ (by omega)
      have hlen := HO.out.len
      have hxk : xs[k]? = some xs[k] := List.getElem?_eq_getElem (by omega)
      obtain ⟨c0, c1, c2⟩ := hcells k _ hxk
      have hkk := hb.kept
      have d0 := (hkk.cell (p := ⟨b, off + k * 3, none⟩) hbl (by simp)).trans c0
      have d1 := (hkk.cell (p := ⟨b, off + k * 3 + 1, none⟩) hbl (by simp)).trans c1
      have d2 := (hkk.cell (p := ⟨b, off + k * 3 + 2, none⟩) hbl (by simp)).trans c2
      have HX := Lib.hid (Tab.run_snoc Tab.init xs k (by omega))
      subst hA
      have hs := step_same hb xs[k]
      have HS := Lib.hid hs
      clear hs hkk c0 c1 c2 hcells hxk hb h2
      generalize xs[k]'(by omega) = x at *
      clear hlen HO
      go_wp2_with fail
      refine HS.out.mono ?_
      rintro e w3 ⟨rfl, h3⟩
      rw [← HX.out] at h3
      have H3 := Lib.hid h3
      clear h3 HS HX d0 d1 d2
      go_wp2
      go_roundw
      case rel => exact ⟨k + 1, by omega, by go_num, H3.out⟩
      case measure => simp [intOf]; omega
    · obtain rfl : k = n := by omega
      rw [List.take_of_length_le (by rw [HO.out.len]; exact Nat.le_refl _)] at hb
      have HB := Lib.hid hb
      clear hb h2 hlt
      go_wp2
      go_ret2
      exact ⟨g, rfl, HB.out.mine⟩

/-- The slice v holds the numbers xs. -/
def Holds (w : World) (v : Value) (xs : List Nat) : Prop := ∃ r cap, v = .slice (some ⟨r, 0, none⟩) xs.length cap ∧ w.ownsRow 0 3 1 (.slice (some ⟨r, 0, none⟩) xs.length cap) xs.length (nums xs)

theorem Fresh.holds {w w' : World} {xs : List Nat} {v : Value} (h : Fresh w xs v w') : Holds w' v xs := by
  obtain ⟨r, cap, h1, h2, _⟩ := h
  exact ⟨r, cap, h1, h2⟩
theorem Holds.later {w w' : World} {xs : List Nat} {v : Value} (h : Holds w v xs) (hk : Kept (fun _ => False) w w') : Holds w' v xs := by
  obtain ⟨r, cap, h1, h2⟩ := h
  exact ⟨r, cap, h1, row_kept h2 hk (by simp)⟩
theorem Holds.cell {w : World} {xs : List Nat} {r n cap : Nat} (h : w.ownsRow 0 3 1 (.slice (some ⟨r, 0, none⟩) n cap) n (nums xs)) {i : Nat} (hi : i < xs.length) : w.cell? ⟨r, i, none⟩ = some (.int .i64 ((xs[i] : Nat) : Int)) := by
  have hl := h.1
  rw [nums_length] at hl
  rw [h.cellAt i (by omega), nums_get xs hi, List.getElem?_eq_getElem hi]
  rfl

set_option maxHeartbeats 1000000 in
theorem ints_same (w : World) (v1 v2 : Value) (xs : List Nat) (h1 : Holds w v1 xs) (h2 : Holds w v2 xs) (hl1 : xs.length ≤ 9223372036854775807) :
    Calls Try.prog 21 #[v1, v2] w fun e w' => e = .returned (.bool true) ∧ Kept (fun _ => False) w w' := by
  obtain ⟨r1, c1, rfl, o1⟩ := h1
  obtain ⟨r2, c2, rfl, o2⟩ := h2
  have hl2 := (o1.lt r1 rfl).2
  have hl3 := (o2.lt r2 rfl).2
  have O1 := Lib.hid o1
  have O2 := Lib.hid o2
  clear o1 o2
  obtain ⟨n, hn⟩ : ∃ n, n = xs.length := ⟨_, rfl⟩
  have HN := Lib.hid hn
  rw [← hn] at hl1 ⊢
  clear hn
  go_enter Try.func21, Try.ntmps21
  go_wp2_with fail
  go_loopw [5] (fun i wr => ∃ k : Nat, k ≤ n ∧ i = .int .i64 (k : Int) ∧ Kept (fun _ => False) w wr) (fun i _ => n - (intOf i).toNat)
  case atStart => exact ⟨0, Nat.zero_le _, rfl, Kept.refl _ _⟩
  case round =>
    obtain ⟨k, hk, rfl, hkk⟩ := hrel
    by_cases hlt : k < n
    · have e1 := (hkk.cell (p := ⟨r1, k, none⟩) hl2 (by simp)).trans (Holds.cell O1.out (i := k) (by have := HN.out; omega))
      have e2 := (hkk.cell (p := ⟨r2, k, none⟩) hl3 (by simp)).trans (Holds.cell O2.out (i := k) (by have := HN.out; omega))
      generalize xs[k]'(by have := HN.out; omega) = q at *
      have HK := Lib.hid hkk
      clear hkk
      have b0 : (0 : Int) ≤ (k : Int) := by omega
      have b1 : (k : Int) < (n : Int) := by omega
      go_wp2_with fail
      go_quiet (fail)
      go_wp2
      go_roundw
      case rel => exact ⟨k + 1, by omega, by go_num, HK.out.drewN _⟩
      case measure => simp [intOf]; omega
    · have HK := Lib.hid hkk
      have hge : n ≤ k := by omega
      clear hkk hlt
      go_wp2
      go_ret
      exact ⟨rfl, HK.out⟩

end Go.Proofs.Ytmedmjngehkmoaa
