/- What is proved here: that Sound answers true for a sound marker. Condition: the marker lies in memory and is well formed and sound. -/
import Derived.Test.YtalhldfcdfdoeaaWMem
import Derived.Test.YtalhldfcdfdoeaaRMem
import Derived.Maps.RangeWalk
namespace Go.Proofs.Ytalhldfcdfdoeaa
open Go.RowKit Go.Maps

theorem ptrR_form (v : Value) (y : DataW Unit × List MemPlace) (h : ptrR v = some y) : ∃ c : Option Addr, v = .pointer c := by
  unfold ptrR at h
  split at h
  · exact ⟨_, rfl⟩
  · exact ⟨_, rfl⟩
  · cases h
/-- The entry that a round has got. -/
theorem dmap_entry {ps : List (Int × Nat)} (hd : ps.Pairwise fun p q => p.1 ≠ q.1) {id : Int} {c : Option Addr} {y : DataW Unit × List MemPlace} (hy : ptrR (.pointer c) = some y) (hat : ∀ zd, (dmap ps).atKey (.int .i64 id) zd = y.1) :
    ∃ nb, (id, nb) ∈ ps ∧ c = some ⟨nb, 0, none⟩ := by
  by_cases hm : ∃ p, p ∈ ps ∧ p.1 = id
  · obtain ⟨⟨i, nb⟩, hp, e⟩ := hm
    simp only at e
    subst e
    refine ⟨nb, hp, ?_⟩
    obtain ⟨h1, _⟩ := dmap_some hd hp
    rw [hat] at h1
    obtain ⟨y1, y2⟩ := y
    simp only at h1
    subst h1
    have := ptrR_inv hy
    injection this
  · exfalso
    have hf : ∀ p, p ∈ ps → p.1 ≠ id := fun p hp e => hm ⟨p, hp, e⟩
    have h1 := (dput_far ps (.map []) hf (.nil)).1
    have h2 := (dput_far ps (.map []) hf (.lit (.bool true))).1
    have e1 := hat .nil
    have e2 := hat (.lit (.bool true))
    unfold dmap at e1 e2
    rw [h1] at e1
    rw [h2] at e2
    have : (DataW.atKey (H := Unit) (.map []) (.int .i64 id) .nil) = .nil := rfl
    rw [this] at e1
    have : (DataW.atKey (H := Unit) (.map []) (.int .i64 id) (.lit (.bool true))) = .lit (.bool true) := rfl
    rw [this] at e2
    rw [← e1] at e2
    cases e2

theorem MMemN.keptN {w w' : World} {ow : Nat → Option Nat} {g : Nat} {nbs : List Nat} {m : Mk} {F : Nat → Prop} (h : MMemN w ow g nbs m) (hk : Kept F w w') (hF : ∀ k, Own ow k → ¬ F k) : MMemN w' ow g nbs m := by
  obtain ⟨mb, qA, qc, hl, o0, o1, o2, hb, hq, hm, hn, hlt⟩ := h
  exact ⟨mb, qA, qc, hl, o0, o1, o2, hb.kept hk (hF _ ⟨_, o0⟩), hq.kept hk (fun r hr => hF _ ⟨_, o2 r hr⟩), hm.kept hk (hF _ ⟨_, o1⟩), fun i x nb hx hnb => (hn i x nb hx hnb).kept hk (fun k t hf ht => absurd hf (hF k ⟨t, ht⟩)) (fun _ _ h => h), fun k t ht => Nat.lt_of_lt_of_le (hlt k t ht) hk.size⟩

set_option maxHeartbeats 4000000 in
theorem m_sound {w : World} {ow : Nat → Option Nat} {g : Nat} {m : Mk} (hG : m.Good) (hS : m.Sound) (hF : Few m) (h : MMem w ow g m) :
    Calls Try.prog 21 #[.pointer (some ⟨g, 0, none⟩)] w fun e w' => e = .returned (.bool true) ∧ Kept (fun _ => False) w w' := by
  obtain ⟨nbs, h⟩ := h
  have hh := h
  obtain ⟨mb, qA, qc, hl, o0, o1, o2, hb, hq, hm, hn, hlt⟩ := hh
  have c0 := hb.cell 0
  simp at c0
  have HH := Lib.hid h
  have HG := Lib.hid hG
  have HS := Lib.hid hS
  have HF := Lib.hid hF
  obtain ⟨N, D, hmm, hD⟩ : ∃ N D, w.ownsMap Try.prog 3 ptrR mb N D ∧ D = dmap ((m.nodes.map Nd.id).zip nbs) := ⟨_, _, hm, rfl⟩
  have HD := Lib.hid hD
  have HM := Lib.hid hmm
  have HN := Lib.hid hn
  have HL := Lib.hid hl
  have hgl := hb.lt
  have HB := Lib.hid hb
  clear h hG hS hF hm hmm hD hn hl hb hq hlt o0 o1 o2
  go_enter Try.func21, Try.ntmps21
  go_wp2_with (first
    | (at_range; refine wpList_range_own _ rfl _ 53 rfl 3 56 keyed Try.underlying53 ptrR mb _ _ rfl HM.out ?_; intro w0 hrg0 hg0 hs0)
    | go_in)
  go_frame
  have k0 : Kept (fun _ => False) w w0 := (Kept.refl (fun _ => False) w).grown hg0 (fun k hk _ => by cases hk)
  go_loopw [3, 5] (fun s _ wr => s = .bool true ∧ ∃ left cnt, wr.ranges Try.prog 3 ptrR mb w.heap.size N D left cnt ∧ Kept (fun _ => False) w wr) (fun _ _ wr => wr.rangeLeft mb w.heap.size)
  case atStart => exact ⟨rfl, _, _, hrg0, k0⟩
  case round =>
    obtain ⟨rfl, left, cnt, hrg, kk⟩ := hrel
    have HRG := Lib.hid hrg
    have KK := Lib.hid kk
    clear hrg kk hrg0 k0 hg0 hs0
    go_wp2_with (first
      | (at_next; refine wpList_next_ranges (α := Int) (β := Option Addr) _ rfl _ rfl 3 keyed ptrR (Value.int .i64) Value.pointer (fun key kl hkey => by obtain ⟨x, rfl, _⟩ := Maps.keyOf_int_inv Try.underlying3 hkey; exact ⟨x, rfl⟩) ptrR_form mb w.heap.size _ _ _ _ rfl HRG.out ?_ ?_)
      | go_in)
    · intro _ hl0
      go_wp2
      go_ret
      exact ⟨rfl, KK.out⟩
    · intro id c kl y1 y2 w1 cnt1 hkey hlx hy hat hrg1 hlt1 hg1 hs1 hen
      obtain ⟨id', ei, ekl, hwid⟩ := Maps.keyOf_int_inv Try.underlying3 hkey
      injection ei with _ ei
      subst ei
      subst ekl
      rw [HD.out] at hat
      obtain ⟨nb, hmem, rfl⟩ := dmap_entry (y := (y1, y2)) (zip_apart HG.out.asc nbs) hy hat
      obtain ⟨i, hi⟩ := List.getElem?_of_mem hmem
      rw [List.getElem?_zip_eq_some] at hi
      obtain ⟨hi1, hnb⟩ := hi
      rw [List.getElem?_map, Option.map_eq_some_iff] at hi1
      obtain ⟨x, hx, rfl⟩ := hi1
      have k1 : Kept (fun _ => False) w w1 := KK.out.trans ((Kept.refl (fun k => k = w.heap.size) wr).grown hg1 (fun k hk _ => by injection hk with hk; exact hk.symm)) (fun i hi e => by omega)
      obtain ⟨A1, c1, A2, c2, hbn, hr1, hr2, _, _, _⟩ := HN.out i x nb hx hnb
      have hbn1 := hbn.kept k1 (by simp)
      have e0 := hbn1.cell 0
      have e1 := hbn1.cell 1
      have e2 := hbn1.cell 2
      simp at e0 e1 e2
      have hall : Mk.allOf m.nodes x.id = x.refs ++ x.ents := allOf_index HG.out.asc hx
      have hfw := (HF.out.2 x.id).1
      rw [hall, List.length_append] at hfw
      have hA1 : A1 = none → x.refs.length = 0 := fun e => hr1.none_len e
      have hA2 : A2 = none → x.ents.length = 0 := fun e => hr2.none_len e
      have HA := Lib.hid (W.all_any nb A1 A2 x.refs.length x.ents.length c1 c2 x.refs x.ents w1 e0 e1 hbn1.lt (hr1.src.kept k1 (fun _ _ h => h)) (hr2.src.kept k1 (fun _ _ h => h)) hA1 hA2 (by omega))
      have hcolx : Mk.colOf m.nodes x.id = some x.col := colOf_index HG.out.asc hx
      have HCX := Lib.hid hcolx
      have HALL := Lib.hid hall
      have HFW := Lib.hid hfw
      have HRG1 := Lib.hid hrg1
      have K1 := Lib.hid k1
      have HBN1 := Lib.hid hbn
      have HX := Lib.hid hx
      clear hkey hlx hy hat hrg1 hg1 hs1 hmem hnb hbn hbn1 hr1 hr2 e0 e1 e2 hA1 hA2 hall hfw hcolx k1 hx
      go_wp2_with fail
      refine HA.out.mono ?_
      rintro e w2 ⟨v, rfl, A3, c3, rfl, r3, f3, k2⟩
      have K2 : Hid (Kept (fun _ => False) w w2) := K1.out.trans k2 (fun _ _ h => h)
      have k12 := k2
      have HRG2 : Hid (w2.ranges Try.prog 3 ptrR mb w.heap.size N D (fun z => left z && !z.sameKey (.int .i64 x.id)) cnt1) :=
        HRG1.out.kept (row := none) ⟨k2.os, k2.tape, k2.output, k2.size, fun i hi _ => k2.block i hi (by simp)⟩ (by simp) (by simp)
      have S3 := Lib.hid r3.src
      obtain ⟨xs, hxs⟩ : ∃ xs, xs = x.refs ++ x.ents := ⟨_, rfl⟩
      rw [← hxs] at S3
      have HXS := Lib.hid hxs
      have hxl : xs.length ≤ 800 := by rw [hxs, List.length_append]; exact HFW.out
      rw [← hxs]
      obtain ⟨ln, hln⟩ : ∃ ln, ln = xs.length := ⟨_, rfl⟩
      rw [← hln] at S3 hxl ⊢
      have c20 := (HB.out.kept K2.out (by simp)).cell 0
      simp at c20
      have e2 := (HBN1.out.kept K2.out (by simp)).cell 2
      simp at e2
      clear hln hxs r3 f3 k2 k12 HA hen
      go_wp2
      go_loop [3, 24] (fun s i => s = .bool true ∧ ∃ k : Nat, k ≤ ln ∧ i = .int .i64 (k : Int)) (fun _ i => ln - (intOf i).toNat)
      case atStart => exact ⟨rfl, 0, Nat.zero_le _, rfl⟩
      case round =>
        obtain ⟨rfl, k, hk, rfl⟩ := hrel
        by_cases hlt : k < ln
        · obtain ⟨rb, ro, r, hA, hrb, hr, hcell⟩ := S3.out.at_ hlt
          subst hA
          have hrm : r ∈ Mk.allOf m.nodes x.id := by rw [HALL.out, ← HXS.out]; exact List.mem_of_getElem? hr
          have hri : I64 r := (HF.out.2 x.id).2.1 r hrm
          have b0 : (0 : Int) ≤ (k : Int) := by omega
          have b1 : (k : Int) < (ln : Int) := by omega
          have hMM := MMem.kept ⟨nbs, HH.out⟩ K2.out (by simp)
          obtain ⟨l1, l2⟩ := look_any HG.out (HH.out.keptN K2.out (by simp)) (HB.out.kept K2.out (by simp)) hri
          cases hcr : Mk.colOf m.nodes r with
          | none =>
            have hl := l1 hcr
            clear l1 l2 hMM hr hrm
            go_wp2
            go_round
            case rel => exact ⟨rfl, k + 1, by omega, by go_num⟩
            case measure => simp [intOf]; omega
          | some cr =>
            obtain ⟨ir, xr, hxr, er1, er2⟩ := find_index hcr
            have hir : ir < nbs.length := by rw [HL.out]; exact (List.getElem?_eq_some_iff.1 hxr).1
            have hnbr : nbs[ir]? = some nbs[ir] := List.getElem?_eq_getElem hir
            have hl := l2 ir xr _ hxr hnbr er1
            obtain ⟨_, _, _, _, hbr, _⟩ := HN.out ir xr _ hxr hnbr
            have u2 := (hbr.kept K2.out (by simp)).cell 2
            simp at u2
            rw [er2] at u2
            generalize nbs[ir] = nbr at *
            by_cases hx2 : x.col = 2
            · have hnz := HS.out x.id (by rw [HCX.out, hx2]) r hrm
              have hcr0 : cr ≠ 0 := by rintro rfl; exact hnz hcr
              have t1 : ((x.col : Int) == 2) = true := by simp; omega
              have t2 : ((cr : Int) == 0) = false := by simp; omega
              clear l1 l2 hMM hr hrm hnz hcr hxr hnbr hbr er1 er2 hx2
              go_wp2
              go_round
              case rel => exact ⟨rfl, k + 1, by omega, by go_num⟩
              case measure => simp [intOf]; omega
            · have t1 : ((x.col : Int) == 2) = false := by simp; omega
              clear l1 l2 hMM hr hrm hcr hxr hnbr hbr er1 er2 hx2
              go_wp2
              go_round
              case rel => exact ⟨rfl, k + 1, by omega, by go_num⟩
              case measure => simp [intOf]; omega
        · have hlt' : ¬ (k : Int) < (ln : Int) := by omega
          clear hlt
          go_wp2
          go_roundw
          case rel => exact ⟨rfl, _, _, HRG2.out, K2.out⟩
          case measure => rw [HRG2.out.left_eq, HRG.out.left_eq]; exact hlt1
end Go.Proofs.Ytalhldfcdfdoeaa
