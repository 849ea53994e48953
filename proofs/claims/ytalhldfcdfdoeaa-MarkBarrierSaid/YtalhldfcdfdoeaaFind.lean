/- What is proved here: the reference's Find finds an object by its id in a proper graph. Condition: the argument lies in memory as that graph. -/
import Derived.Test.YtalhldfcdfdoeaaNew
namespace Go.Proofs.Ytalhldfcdfdoeaa
open Go.RowKit

/-- r is the place of the object id among os, or -1. -/
def FindIs (os : List Ob) (id r : Int) : Prop := (∃ (i : Nat) (o : Ob), os[i]? = some o ∧ o.id = id ∧ r = (i : Int)) ∨ ((∀ o, o ∈ os → o.id ≠ id) ∧ r = -1)
def FindSays (os : List Ob) (id : Int) (w : World) (e : Ending) (w' : World) : Prop := ∃ r : Int, e = .returned (.int .i64 r) ∧ FindIs os id r ∧ Kept (fun _ => False) w w'

/-- What the search knows. -/
def Between (os : List Ob) (id : Int) (lo hi : Nat) : Prop := lo ≤ hi ∧ hi ≤ os.length ∧ (∀ (j : Nat) (o : Ob), os[j]? = some o → j < lo → o.id < id) ∧ ∀ (j : Nat) (o : Ob), os[j]? = some o → hi ≤ j → id ≤ o.id

theorem Between.up {os : List Ob} {id : Int} {lo hi mid : Nat} (h : Between os id lo hi) (ha : os.Pairwise fun a b => a.id < b.id) {o : Ob} (hm : os[mid]? = some o) (h2 : mid < hi) (h3 : o.id < id) (h1 : lo ≤ mid) : Between os id (mid + 1) hi := by
  obtain ⟨a, b, c, d⟩ := h
  refine ⟨by omega, b, fun j p hj hlt => ?_, d⟩
  rcases Nat.lt_or_eq_of_le (Nat.le_of_lt_succ hlt) with h | h
  · obtain ⟨hj1, rfl⟩ := List.getElem?_eq_some_iff.1 hj
    obtain ⟨hm1, rfl⟩ := List.getElem?_eq_some_iff.1 hm
    have := List.pairwise_iff_getElem.1 ha j mid hj1 hm1 h
    omega
  · subst h
    rw [hm] at hj
    injection hj with hj
    subst hj
    exact h3
theorem Between.down {os : List Ob} {id : Int} {lo hi mid : Nat} (h : Between os id lo hi) (ha : os.Pairwise fun a b => a.id < b.id) {o : Ob} (hm : os[mid]? = some o) (h1 : lo ≤ mid) (h2 : mid < hi) (h3 : ¬ o.id < id) : Between os id lo mid := by
  obtain ⟨a, b, c, d⟩ := h
  refine ⟨h1, by omega, c, fun j p hj hlt => ?_⟩
  rcases Nat.lt_or_eq_of_le hlt with h | h
  · obtain ⟨hj1, rfl⟩ := List.getElem?_eq_some_iff.1 hj
    obtain ⟨hm1, rfl⟩ := List.getElem?_eq_some_iff.1 hm
    have := List.pairwise_iff_getElem.1 ha mid j hm1 hj1 h
    omega
  · subst h
    rw [hm] at hj
    injection hj with hj
    subst hj
    omega
theorem Between.found {os : List Ob} {id : Int} {lo : Nat} {o : Ob} (hm : os[lo]? = some o) (h3 : o.id = id) : FindIs os id (lo : Int) := .inl ⟨lo, o, hm, h3, rfl⟩
theorem Between.none {os : List Ob} {id : Int} {lo : Nat} (h : Between os id lo lo) (ha : os.Pairwise fun a b => a.id < b.id) (hm : ∀ o, os[lo]? = some o → o.id ≠ id) : FindIs os id (-1) := by
  refine .inr ⟨fun o ho => ?_, rfl⟩
  obtain ⟨j, hj⟩ := List.getElem?_of_mem ho
  obtain ⟨a, b, c, d⟩ := h
  rcases Nat.lt_trichotomy j lo with h | h | h
  · have := c j o hj h; omega
  · subst h; exact hm o hj
  · have hlo : lo < os.length := by have := (List.getElem?_eq_some_iff.1 hj).1; omega
    have h1 := d lo _ (List.getElem?_eq_getElem hlo) (Nat.le_refl _)
    obtain ⟨hj1, rfl⟩ := List.getElem?_eq_some_iff.1 hj
    have := List.pairwise_iff_getElem.1 ha lo j hlo hj1 h
    omega

set_option maxHeartbeats 4000000 in
theorem find_any (oA rA : Option Addr) (on oc rn rc : Nat) (os : List Ob) (id : Int) (w : World) (h : Objs w oA on os) (hn : on ≤ 1000) (ha : os.Pairwise fun a b => a.id < b.id) :
    Calls Try.prog 17 #[.agg #[.slice oA on oc, .slice rA rn rc], .int .i64 id] w (FindSays os id w) := by
  have H := Lib.hid h
  have HA := Lib.hid ha
  clear h ha
  go_enter Try.func17, Try.ntmps17
  go_wp2_with fail
  go_quiet (fail)
  go_wp2
  go_loop [5, 6] (fun a b => ∃ lo hi : Nat, a = .int .i64 (lo : Int) ∧ b = .int .i64 (hi : Int) ∧ Between os id lo hi) (fun a b => (intOf b).toNat - (intOf a).toNat)
  case atStart => exact ⟨0, on, rfl, rfl, Nat.zero_le _, by rw [H.out.len]; exact Nat.le_refl _, fun j o _ h => by omega, fun j o hj h => by have := (List.getElem?_eq_some_iff.1 hj).1; rw [H.out.len] at this; omega⟩
  case round =>
    obtain ⟨lo, hi, rfl, rfl, hB⟩ := hrel
    have hlen := H.out.len
    have hb2 := hB.2.1
    by_cases hlt : lo < hi
    · obtain ⟨b, off, hA, hbl, hcells⟩ := H.out.at_ (by omega)
      have hm1 : lo ≤ (lo + hi) / 2 := by omega
      have hm2 : (lo + hi) / 2 < hi := by omega
      have d0 := (hcells ((lo + hi) / 2) _ (List.getElem?_eq_getElem (by omega))).1
      have HM : Hid (os[(lo + hi) / 2]? = some (os[(lo + hi) / 2]'(by omega))) := List.getElem?_eq_getElem (by omega)
      generalize os[(lo + hi) / 2]'(by omega) = o at *
      subst hA
      have HB := Lib.hid hB
      have t0 : (lo : Int) < (hi : Int) := by omega
      have b0 : (0 : Int) ≤ ((lo : Int) + (hi : Int)) / 2 := by omega
      have b1 : ((lo : Int) + (hi : Int)) / 2 < (on : Int) := by omega
      have hh : b ≠ w.heap.size := by omega
      have hhi : hi ≤ 1000 := by omega
      obtain ⟨oid, osz, owk, orA, orc, orefs, oeA, oec, oents⟩ := o
      simp only at d0
      clear hB hcells
      by_cases h3 : oid < id
      · have t3 : decide (oid < id) = true := by simp [h3]
        have HN : Hid (Between os id ((lo + hi) / 2 + 1) hi) := HB.out.up HA.out HM.out hm2 h3 hm1
        go_wp2
        go_round
        case rel => exact ⟨(lo + hi) / 2 + 1, hi, by go_num, rfl, HN.out⟩
        case measure => simp [intOf]; omega
      · have t3 : decide (oid < id) = false := by simp; omega
        have HN : Hid (Between os id lo ((lo + hi) / 2)) := HB.out.down HA.out HM.out hm1 hm2 h3
        go_wp2
        go_round
        case rel => exact ⟨lo, (lo + hi) / 2, rfl, by go_num, HN.out⟩
        case measure => simp [intOf]; omega
    · obtain rfl : lo = hi := by have := hB.1; omega
      have HB := Lib.hid hB
      by_cases hln : lo < on
      · obtain ⟨b, off, hA, hbl, hcells⟩ := H.out.at_ (by omega)
        have d0 := (hcells lo _ (List.getElem?_eq_getElem (by omega))).1
        have HM : Hid (os[lo]? = some (os[lo]'(by omega))) := List.getElem?_eq_getElem (by omega)
        generalize os[lo]'(by omega) = o at *
        subst hA
        have b0 : (0 : Int) ≤ (lo : Int) := by omega
        have b1 : (lo : Int) < (on : Int) := by omega
        have t1 : decide ((lo : Int) < (on : Int)) = true := by simp; omega
        obtain ⟨oid, osz, owk, orA, orc, orefs, oeA, oec, oents⟩ := o
        simp only at d0
        clear hB hcells
        by_cases h3 : oid = id
        · have t3 : (oid == id) = true := by simp [h3]
          go_wp2
          go_ret
          exact ⟨_, rfl, Between.found HM.out h3, ((Kept.refl _ w).alloc _).drewN _⟩
        · have t3 : (oid == id) = false := by simp [h3]
          go_wp2
          go_ret
          refine ⟨_, rfl, HB.out.none HA.out (fun o ho => ?_), ((Kept.refl _ w).alloc _).drewN _⟩
          rw [HM.out] at ho
          injection ho with ho
          subst ho
          exact h3
      · have t1 : decide ((lo : Int) < (on : Int)) = false := by simp; omega
        clear hB
        go_wp2
        go_ret
        refine ⟨_, rfl, HB.out.none HA.out (fun o ho => ?_), ((Kept.refl _ w).alloc _).drewN _⟩
        have := (List.getElem?_eq_some_iff.1 ho).1
        omega
end Go.Proofs.Ytalhldfcdfdoeaa
