/- What is proved here: what 'all' of an object and 'entries' do to memory. Conditions: the slices are given as rows. -/
import Derived.Test.YtalhldfcdfdoeaaLib
import Derived.Deep.RegionHeld3
namespace Go.Proofs.Ytalhldfcdfdoeaa
open Go.RowKit
namespace W

set_option maxHeartbeats 1000000 in
theorem all_any (nb : Nat) (A1 A2 : Option Addr) (n1 n2 c1 c2 : Nat) (y1 y2 : List Int) (w : World) (d0 : w.cell? ⟨nb, 0, none⟩ = some (.slice A1 n1 c1)) (d1 : w.cell? ⟨nb, 1, none⟩ = some (.slice A2 n2 c2)) (hnl : nb < w.heap.size)
    (hs1 : Src w A1 n1 y1) (hs2 : Src w A2 n2 y2) (hA1 : A1 = none → n1 = 0) (hA2 : A2 = none → n2 = 0) (hb : (n1 + n2) * 8 ≤ 140737488355328) :
    Calls Try.prog 27 #[.pointer (some ⟨nb, 0, none⟩)] w fun e w' => ∃ v, e = .returned v ∧ Late w (y1 ++ y2) v w' := by
  obtain ⟨W, hW⟩ : ∃ W, W = (w.alloc (.cells #[.slice A1 n1 c1, .slice A2 n2 c2] 23)).drew := ⟨_, rfl⟩
  have hkW : Kept (fun _ => False) w W := by rw [hW]; exact ((Kept.refl _ w).alloc _).drew
  have hbW : Blk W w.heap.size 23 #[.slice A1 n1 c1, .slice A2 n2 c2] := by rw [hW]; exact (Blk.new w 23 _).drew
  have hc := concat_two w.heap.size A1 A2 n1 n2 c1 c2 y1 y2 W (hbW.cell 0) (hbW.cell 1) hbW.lt (hs1.kept hkW (fun _ _ h => h)) (hs2.kept hkW (fun _ _ h => h)) hA1 hA2 hb
  have e0 : W.cell? ⟨nb, 0, none⟩ = some (.slice A1 n1 c1) := (hkW.cell (p := ⟨nb, 0, none⟩) hnl (by simp)).trans d0
  have e1 : W.cell? ⟨nb, 1, none⟩ = some (.slice A2 n2 c2) := (hkW.cell (p := ⟨nb, 1, none⟩) hnl (by simp)).trans d1
  rw [hW] at hc
  have HC := Lib.hid hc
  have HK := Lib.hid hkW
  have HW := Lib.hid hW
  clear hc hkW hbW hW hs1 hs2 hA1 hA2 hb e0 e1
  have hne : nb ≠ w.heap.size := by omega
  go_enter Try.func27, Try.ntmps27
  go_wp2_with fail
  go_region_held3 (fun w' => w'.cell? ⟨nb, 0, none⟩ = some (.slice A1 n1 c1) ∧ w'.cell? ⟨nb, 1, none⟩ = some (.slice A2 n2 c2)) (first | go_keep | exact hcc)
    (first
      | (go_at_call 30; refine HC.out.mono ?_; rintro e w1 ⟨v, rfl, hv⟩; have hcc : w1.cell? ⟨nb, 0, none⟩ = some (.slice A1 n1 c1) ∧ w1.cell? ⟨nb, 1, none⟩ = some (.slice A2 n2 c2) := (by obtain ⟨_, _, _, _, _, k⟩ := hv; exact ⟨((k.cell (p := ⟨nb, 0, none⟩) (by simp; omega) (by simp)).trans (by simp [World.cell?_alloc_lt, hnl, d0])), ((k.cell (p := ⟨nb, 1, none⟩) (by simp; omega) (by simp)).trans (by simp [World.cell?_alloc_lt, hnl, d1]))⟩)))
  have HV := Lib.hid hv
  clear hv hcc
  go_wp2
  go_ret
  refine ⟨v, rfl, ?_⟩
  obtain ⟨A, c, h1, h2, h3, h4⟩ := HV.out
  exact ⟨A, c, h1, h2, fun r hr => by have := h3 r hr; simp at this; omega, (((Kept.refl _ w).alloc _).drew).trans h4 (fun _ _ h => h)⟩

/-- A slice of entries that came in: keys and values. -/
structure Ents (w : World) (A : Option Addr) (n : Nat) (kvs : List (Int × Int)) : Prop where
  len : kvs.length = n
  at_ : 0 < n → ∃ b off, A = some ⟨b, off, none⟩ ∧ b < w.heap.size ∧ ∀ i p, kvs[i]? = some p → w.cell? ⟨b, off + i * 2, none⟩ = some (.int .i64 p.1) ∧ w.cell? ⟨b, off + i * 2 + 1, none⟩ = some (.int .i64 p.2)

def flatKV : List (Int × Int) → List Int
  | [] => []
  | p :: l => p.1 :: p.2 :: flatKV l
theorem flatKV_length (l : List (Int × Int)) : (flatKV l).length = l.length * 2 := by
  induction l with
  | nil => rfl
  | cons p l ih => simp [flatKV, ih]; omega
theorem flatKV_append (l m : List (Int × Int)) : flatKV (l ++ m) = flatKV l ++ flatKV m := by
  induction l with
  | nil => rfl
  | cons p l ih => simp [flatKV, ih]
theorem flatKV_snoc (l : List (Int × Int)) (k : Nat) (h : k < l.length) : flatKV (l.take (k + 1)) = flatKV (l.take k) ++ [l[k].1, l[k].2] := by
  rw [List.take_succ_eq_append_getElem h, flatKV_append]
  rfl

set_option maxHeartbeats 2000000 in
theorem entries_any (v0 v1 v2 v3 : Value) (A : Option Addr) (n c : Nat) (kvs : List (Int × Int)) (w : World) (hE : Ents w A n kvs) (hn : n ≤ 1000) :
    Calls Try.prog 25 #[.agg #[v0, v1, v2, v3, .slice A n c]] w fun e w' => ∃ v, e = .returned v ∧ Late w (flatKV kvs) v w' := by
  have HE := Lib.hid hE
  clear hE
  go_enter Try.func25, Try.ntmps25
  go_wp2
  go_loopw [3, 9] (fun v i wr => ∃ k : Nat, k ≤ n ∧ i = .int .i64 (k : Int) ∧ Late w (flatKV (kvs.take k)) v wr) (fun _ i _ => n - (intOf i).toNat)
  case atStart => exact ⟨0, Nat.zero_le _, rfl, none, 0, rfl, Row.nil _, by simp [rowBlk], (Kept.refl _ w).alloc _⟩
  case round =>
    obtain ⟨k, hk, rfl, A', c', rfl, row, fr, kk⟩ := hrel
    by_cases hlt : k < n
    · obtain ⟨b, off, hA, hbl, hcells⟩ := HE.out.at_ (by omega)
      have hlen := HE.out.len
      obtain ⟨d0, d1⟩ := hcells k _ (List.getElem?_eq_getElem (by omega))
      have e0 := (kk.cell (p := ⟨b, off + k * 2, none⟩) hbl (by simp)).trans d0
      have e1 := (kk.cell (p := ⟨b, off + k * 2 + 1, none⟩) hbl (by simp)).trans d1
      have HT := Lib.hid (flatKV_snoc kvs k (by omega))
      have hl : (flatKV (kvs.take k)).length = k * 2 := by rw [flatKV_length, List.length_take]; omega
      generalize kvs[k]'(by omega) = p at *
      obtain ⟨p1, p2⟩ := p
      simp only at e0 e1 HT
      generalize flatKV (kvs.take k) = pre at *
      subst hA
      have b0 : (0 : Int) ≤ (k : Int) := by omega
      have b1 : (k : Int) < (n : Int) := by omega
      have hbw : b < wr.heap.size := Nat.lt_of_lt_of_le hbl kk.size
      have hr : Row ((wr.alloc (.cells #[.int .i64 p1, .int .i64 p2] 68)).alloc (.cells #[.int .i64 p1, .int .i64 p2] 3)) A' pre.length c' pre := row.kept (((Kept.refl (fun _ => False) wr).alloc _).alloc _) (by simp)
      have hs : Src ((wr.alloc (.cells #[.int .i64 p1, .int .i64 p2] 68)).alloc (.cells #[.int .i64 p1, .int .i64 p2] 3)) (some ⟨wr.heap.size + 1, 0, none⟩) 2 [p1, p2] := by
        have := (Row.new (wr.alloc (.cells #[.int .i64 p1, .int .i64 p2] 68)) [p1, p2] (by show 2 ≤ maxLen; decide)).src
        rw [World.size_alloc] at this
        exact this
      have R := Lib.hid hr
      have S := Lib.hid hs
      have FR := Lib.hid fr
      have KK := Lib.hid kk
      have hb8 : (pre.length + 2) * 8 ≤ 140737488355328 := by omega
      have HB := Lib.hid hb8
      have HL := Lib.hid hl
      clear hr hs fr kk row hb8 hcells d0 d1 hlen hl HE
      go_wp2_with (at_builtin; refine wpList_append_Row _ rfl _ _ rfl A' _ c' pre rfl R.out (some ⟨wr.heap.size + 1, 0, none⟩) 2 2 [p1, p2] rfl S.out (by simp) HB.out ?_)
      intro A2 c2 w2 r1 r2 r3
      have HN : Hid (Late w (pre ++ [p1, p2]) (.slice A2 (pre.length + 2) c2) w2) := by
        have e : (pre ++ [p1, p2]).length = pre.length + 2 := by simp
        refine ⟨A2, c2, by rw [e], by rw [e]; exact r1, fun r hr => ?_, ((KK.out.alloc _).alloc _).grown r2 (fun k hk hlt => by have := FR.out k hk; omega)⟩
        rcases r3 with h | ⟨r', h, hr'⟩
        · rw [h] at hr; exact FR.out r hr
        · rw [h] at hr; injection hr with hr; have := KK.out.size; omega
      clear r1 r2 r3 R S FR KK e0 e1
      go_wp2
      go_roundw
      case rel => exact ⟨k + 1, by omega, by go_num, by rw [HT.out]; exact HN.out⟩
      case measure => simp [intOf]; omega
    · obtain rfl : k = n := by omega
      have HN : Hid (Late w (flatKV kvs) (.slice A' (flatKV (kvs.take k)).length c') wr) := by
        rw [List.take_of_length_le (by rw [HE.out.len]; exact Nat.le_refl _)] at row ⊢
        exact ⟨A', c', rfl, row, fr, kk⟩
      generalize (flatKV (kvs.take k)).length = ln at *
      clear row fr kk hlt
      go_wp2
      go_ret
      exact ⟨_, rfl, HN.out⟩
end W
end Go.Proofs.Ytalhldfcdfdoeaa
