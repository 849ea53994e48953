/- What is proved here: Gray of a marker, Ints of equal lists, Large of a graph, and that the law's small case holds. Conditions: the arguments lie in memory as plain lists. -/
import Derived.Test.YtalhldfcdfdoeaaStep
namespace Go.Proofs.Ytalhldfcdfdoeaa
open Go.RowKit

set_option maxHeartbeats 1000000 in
theorem m_gray {w : World} {ow : Nat → Option Nat} {g : Nat} {m : Mk} (h : MMem w ow g m) (hq : m.queue.length ≤ 1000) :
    Calls Try.prog 13 #[.pointer (some ⟨g, 0, none⟩)] w fun e w' => ∃ v, e = .returned v ∧ W.Late w m.queue v w' := by
  obtain ⟨nbs, mb, qA, qc, hl, o0, o1, o2, hb, hq1, hm, hn, hlt⟩ := h
  have h1 := hb.cell 1
  have hnil : qA = none → m.queue.length = 0 ∧ qc = 0 := by
    intro e
    refine ⟨hq1.none_len e, ?_⟩
    obtain ⟨_, _, _, h | ⟨g, off, cur, rfl, _⟩⟩ := hq1
    · exact h.2
    · cases e
  have HC := Lib.hid (W.clone_any qA m.queue.length qc m.queue w hq1.src hnil (by omega))
  clear hl o0 o1 o2 hb hq1 hm hn hlt hnil
  go_enter Try.func13, Try.ntmps13
  go_wp2_with fail
  refine HC.out.mono ?_
  rintro e w' ⟨A, c, rfl, r, f, k⟩
  have HL : Hid (W.Late w m.queue (.slice A m.queue.length c) w') := ⟨A, c, rfl, r, f, k⟩
  clear r f k HC h1
  go_wp2
  go_ret
  exact ⟨_, rfl, HL.out⟩

set_option maxHeartbeats 1000000 in
theorem ints_same (A1 A2 : Option Addr) (n c1 c2 : Nat) (ys : List Int) (w : World) (s1 : Src w A1 n ys) (s2 : Src w A2 n ys) (hn : n ≤ 100000) :
    Calls Try.prog 12 #[.slice A1 n c1, .slice A2 n c2] w fun e w' => e = .returned (.bool true) ∧ Kept (fun _ => False) w w' := by
  have S1 := Lib.hid s1
  have S2 := Lib.hid s2
  clear s1 s2
  go_enter Try.func12, Try.ntmps12
  go_wp2
  go_loopw [5] (fun i wr => ∃ k : Nat, k ≤ n ∧ i = .int .i64 (k : Int) ∧ Kept (fun _ => False) w wr) (fun i _ => n - (intOf i).toNat)
  case atStart => exact ⟨0, Nat.zero_le _, rfl, Kept.refl _ _⟩
  case round =>
    obtain ⟨k, hk, rfl, kk⟩ := hrel
    by_cases hlt : k < n
    · obtain ⟨g1, o1, x, rfl, l1, x1, d1⟩ := S1.out.at_ hlt
      obtain ⟨g2, o2, y, rfl, l2, x2, d2⟩ := S2.out.at_ hlt
      rw [x1] at x2
      injection x2 with x2
      subst x2
      have e1 := (kk.cell (p := ⟨g1, o1 + k, none⟩) l1 (by simp)).trans d1
      have e2 := (kk.cell (p := ⟨g2, o2 + k, none⟩) l2 (by simp)).trans d2
      have KK := Lib.hid kk
      have b0 : (0 : Int) ≤ (k : Int) := by omega
      have b1 : (k : Int) < (n : Int) := by omega
      clear kk d1 d2 x1
      go_wp2_with fail
      go_region
      go_wp2
      go_roundw
      case rel => exact ⟨k + 1, by omega, by go_num, KK.out.drewN _⟩
      case measure => simp [intOf]; omega
    · obtain rfl : k = n := by omega
      have KK := Lib.hid kk
      clear kk hlt
      go_wp2
      go_ret
      exact ⟨rfl, KK.out⟩

def LargeSays (os : List Ob) (on rn : Nat) (w : World) (e : Ending) (w' : World) : Prop :=
  ∃ b, e = .returned (.bool b) ∧ (b = false → on ≤ 60 ∧ rn ≤ 60 ∧ ∀ o, o ∈ os → o.refs.length ≤ 40 ∧ o.ents.length ≤ 40) ∧ Kept (fun _ => False) w w'

set_option maxHeartbeats 2000000 in
theorem large_any (oA rA : Option Addr) (on oc rn rc : Nat) (os : List Ob) (w : World) (h : Objs w oA on os) :
    Calls Try.prog 8 #[.agg #[.slice oA on oc, .slice rA rn rc]] w (LargeSays os on rn w) := by
  have H := Lib.hid h
  clear h
  by_cases h1 : 60 < on
  · have t1 : decide (60 < (on : Int)) = true := by simp; omega
    go_enter Try.func8, Try.ntmps8
    go_wp2
    go_ret
    exact ⟨true, rfl, fun h => (by cases h), (Kept.refl _ w).alloc _⟩
  by_cases h2 : 60 < rn
  · have t1 : decide (60 < (on : Int)) = false := by simp; omega
    have t2 : decide (60 < (rn : Int)) = true := by simp; omega
    go_enter Try.func8, Try.ntmps8
    go_wp2
    go_ret
    exact ⟨true, rfl, fun h => (by cases h), (Kept.refl _ w).alloc _⟩
  have t1 : decide (60 < (on : Int)) = false := by simp; omega
  have t2 : decide (60 < (rn : Int)) = false := by simp; omega
  go_enter Try.func8, Try.ntmps8
  go_wp2
  go_loop [3] (fun i => ∃ k : Nat, k ≤ on ∧ i = .int .i64 (k : Int) ∧ ∀ o, o ∈ os.take k → o.refs.length ≤ 40 ∧ o.ents.length ≤ 40) (fun i => on - (intOf i).toNat)
  case atStart => exact ⟨0, Nat.zero_le _, rfl, by simp⟩
  case round =>
    obtain ⟨k, hk, rfl, hall⟩ := hrel
    by_cases hlt : k < on
    · obtain ⟨b, off, hA, hbl, hcells⟩ := H.out.at_ (by omega)
      have hlen := H.out.len
      obtain ⟨d0, d1, d2, d3, d4⟩ := hcells k _ (List.getElem?_eq_getElem (by omega))
      have HT : Hid (os.take (k + 1) = os.take k ++ [os[k]'(by omega)]) := List.take_succ_eq_append_getElem (by omega)
      generalize os[k]'(by omega) = o at *
      obtain ⟨oid, osz, owk, orA, orc, orefs, oeA, oec, oents⟩ := o
      simp only at d0 d1 d2 d3 d4
      subst hA
      have HALL := Lib.hid hall
      clear hcells hlen hall
      have b0 : (0 : Int) ≤ (k : Int) := by omega
      have b1 : (k : Int) < (on : Int) := by omega
      have hbl2 : b ≠ w.heap.size := by omega
      by_cases h3 : 40 < orefs.length
      · have t3 : decide (40 < (orefs.length : Int)) = true := by simp; omega
        go_wp2
        go_ret
        exact ⟨true, rfl, fun h => (by cases h), (Kept.refl _ w).alloc _⟩
      · have t3 : decide (40 < (orefs.length : Int)) = false := by simp; omega
        by_cases h4 : 40 < oents.length
        · have t4 : decide (40 < (oents.length : Int)) = true := by simp; omega
          go_wp2
          go_ret
          exact ⟨true, rfl, fun h => (by cases h), (Kept.refl _ w).alloc _⟩
        · have t4 : decide (40 < (oents.length : Int)) = false := by simp; omega
          go_wp2
          go_round
          case rel =>
            refine ⟨k + 1, by omega, by go_num, ?_⟩
            rw [HT.out]
            intro o ho
            rcases List.mem_append.1 ho with ho | ho
            · exact HALL.out o ho
            · simp at ho
              subst ho
              simp only
              omega
          case measure => simp [intOf]; omega
    · obtain rfl : k = on := by omega
      rw [List.take_of_length_le (by rw [H.out.len]; exact Nat.le_refl _)] at hall
      have HALL := Lib.hid hall
      clear hall hlt
      go_wp2
      go_ret
      exact ⟨false, rfl, fun _ => ⟨by omega, by omega, HALL.out⟩, (Kept.refl _ w).alloc _⟩

/-- An object of a graph as it came in. -/
structure ObPre (w : World) (o : Ob) : Prop where
  rsrc : Src w o.rA o.refs.length o.refs
  rnil : o.rA = none → o.refs.length = 0 ∧ o.rc = 0
  esrc : W.Ents w o.eA o.ents.length o.ents
  iid : I64 o.id
  irefs : ∀ r, r ∈ o.refs ++ W.flatKV o.ents → I64 r
theorem ObPre.later {w w' : World} {o : Ob} (h : ObPre w o) (hk : Kept (fun _ => False) w w') : ObPre w' o :=
  ⟨h.rsrc.kept hk (fun _ _ h => h), h.rnil, h.esrc.later hk, h.iid, h.irefs⟩
theorem ObPre.ok {w : World} {o : Ob} (h : ObPre w o) (hf : o.refs.length ≤ 40 ∧ o.ents.length ≤ 40) : ObOk w o := ⟨h.rsrc, h.rnil, h.esrc, h.iid, h.irefs, by omega, hf.2⟩

theorem mk0_few {w : World} {os : List Ob} (h : ∀ o, o ∈ os → ObOk w o) (hn : os.length ≤ 100) : Few (mk0 os) := by
  refine ⟨by simpa [mk0] using hn, fun id => ?_⟩
  unfold Mk.allOf Mk.colOf mk0
  simp only
  cases hf : (os.map ndOf).find? (fun x => x.id == id) with
  | none => simp
  | some x =>
    obtain ⟨o, ho, rfl⟩ := List.mem_map.1 (List.mem_of_find?_eq_some hf)
    have hi := List.find?_some hf
    simp at hi
    have hk := h o ho
    simp only [Option.map_some, Option.getD_some]
    refine ⟨?_, ?_, fun _ => ?_⟩
    · have := hk.few
      simp only [ndOf, List.length_append, W.flatKV_length]
      omega
    · exact hk.irefs
    · rw [← hi]; exact hk.iid
theorem mkNew_few {w : World} {os : List Ob} (h : ∀ o, o ∈ os → ObOk w o) (hn : os.length ≤ 100) (rs : List Int) : Few (mkNew os rs) := (mk0_few h hn).same (Mk.same_reaches _ _)
theorem mkNew_good {os : List Ob} (h : chk 0 os = true) (rs : List Int) : (mkNew os rs).Good := (mk0_good h).reaches _
end Go.Proofs.Ytalhldfcdfdoeaa
