/- What is proved here: a graph that came in, as plain data; and that Check returns ErrArg just where it is not proper. Condition: the argument lies in memory as that graph. -/
import Derived.Test.YtalhldfcdfdoeaaAll
namespace Go.Proofs.Ytalhldfcdfdoeaa
open Go.RowKit

/-- An object of a graph: its numbers, its references, its entries (and where their slices lie). -/
structure Ob where
  id : Int
  size : Int
  weak : Int
  rA : Option Addr
  rc : Nat
  refs : List Int
  eA : Option Addr
  ec : Nat
  ents : List (Int × Int)

structure ObOk (w : World) (o : Ob) : Prop where
  rsrc : Src w o.rA o.refs.length o.refs
  rnil : o.rA = none → o.refs.length = 0 ∧ o.rc = 0
  esrc : W.Ents w o.eA o.ents.length o.ents
  iid : I64 o.id
  irefs : ∀ r, r ∈ o.refs ++ W.flatKV o.ents → I64 r
  few : o.refs.length ≤ 200 ∧ o.ents.length ≤ 40

structure Objs (w : World) (A : Option Addr) (n : Nat) (os : List Ob) : Prop where
  len : os.length = n
  at_ : 0 < n → ∃ b off, A = some ⟨b, off, none⟩ ∧ b < w.heap.size ∧ ∀ i o, os[i]? = some o → w.cell? ⟨b, off + i * 5, none⟩ = some (.int .i64 o.id) ∧ w.cell? ⟨b, off + i * 5 + 1, none⟩ = some (.int .i64 o.size) ∧ w.cell? ⟨b, off + i * 5 + 2, none⟩ = some (.int .i64 o.weak) ∧
    w.cell? ⟨b, off + i * 5 + 3, none⟩ = some (.slice o.rA o.refs.length o.rc) ∧ w.cell? ⟨b, off + i * 5 + 4, none⟩ = some (.slice o.eA o.ents.length o.ec)

theorem Objs.later {w w' : World} {A : Option Addr} {n : Nat} {os : List Ob} (h : Objs w A n os) (hk : Kept (fun _ => False) w w') : Objs w' A n os := by
  refine ⟨h.len, fun hn => ?_⟩
  obtain ⟨b, off, e, hb, hc⟩ := h.at_ hn
  refine ⟨b, off, e, Nat.lt_of_lt_of_le hb hk.size, fun i o ho => ?_⟩
  obtain ⟨c0, c1, c2, c3, c4⟩ := hc i o ho
  exact ⟨(hk.cell (p := ⟨b, _, none⟩) hb (by simp)).trans c0, (hk.cell (p := ⟨b, _, none⟩) hb (by simp)).trans c1, (hk.cell (p := ⟨b, _, none⟩) hb (by simp)).trans c2, (hk.cell (p := ⟨b, _, none⟩) hb (by simp)).trans c3, (hk.cell (p := ⟨b, _, none⟩) hb (by simp)).trans c4⟩
theorem W.Ents.later {w w' : World} {A : Option Addr} {n : Nat} {kvs : List (Int × Int)} (h : W.Ents w A n kvs) (hk : Kept (fun _ => False) w w') : W.Ents w' A n kvs := by
  refine ⟨h.len, fun hn => ?_⟩
  obtain ⟨b, off, e, hb, hc⟩ := h.at_ hn
  refine ⟨b, off, e, Nat.lt_of_lt_of_le hb hk.size, fun i o ho => ?_⟩
  obtain ⟨c0, c1⟩ := hc i o ho
  exact ⟨(hk.cell (p := ⟨b, _, none⟩) hb (by simp)).trans c0, (hk.cell (p := ⟨b, _, none⟩) hb (by simp)).trans c1⟩
theorem ObOk.later {w w' : World} {o : Ob} (h : ObOk w o) (hk : Kept (fun _ => False) w w') : ObOk w' o :=
  ⟨h.rsrc.kept hk (fun _ _ h => h), h.rnil, h.esrc.later hk, h.iid, h.irefs, h.few⟩

def okOb (last : Int) (o : Ob) : Bool := decide (last < o.id ∧ 0 ≤ o.size ∧ 0 ≤ o.weak ∧ o.weak ≤ 3)
/-- The graph is proper. -/
def chk : Int → List Ob → Bool
  | _, [] => true
  | l, o :: os => okOb l o && chk o.id os
def chkE (os : List Ob) : Int := if chk 0 os then 0 else 2
def lastId (l : Int) (os : List Ob) : Int := (os.getLast?.map Ob.id).getD l
theorem lastId_cons (l : Int) (o : Ob) (os : List Ob) : lastId l (o :: os) = lastId o.id os := by
  unfold lastId
  cases os with
  | nil => rfl
  | cons p os => rw [List.getLast?_cons_cons, List.getLast?_cons]; rfl
theorem chk_append (l : Int) (a b : List Ob) : chk l (a ++ b) = (chk l a && chk (lastId l a) b) := by
  induction a generalizing l with
  | nil => rfl
  | cons o a ih => rw [List.cons_append, chk, chk, ih, lastId_cons, Bool.and_assoc]
theorem chk_snoc (os : List Ob) (k : Nat) (h : k < os.length) : chk 0 (os.take (k + 1)) = (chk 0 (os.take k) && okOb (lastId 0 (os.take k)) os[k]) := by
  rw [List.take_succ_eq_append_getElem h, chk_append]
  simp [chk]
theorem lastId_snoc (os : List Ob) (k : Nat) (h : k < os.length) : lastId 0 (os.take (k + 1)) = os[k].id := by
  rw [List.take_succ_eq_append_getElem h]
  unfold lastId
  rw [List.getLast?_append]
  rfl
theorem chk_take {os : List Ob} (k : Nat) (h : chk 0 os = true) : chk 0 (os.take k) = true := by
  rw [← List.take_append_drop k os, chk_append] at h
  exact (Bool.and_eq_true_iff.1 h).1

set_option maxHeartbeats 4000000 in
theorem check_any (oA rA : Option Addr) (on oc rn rc : Nat) (os : List Ob) (w : World) (h : Objs w oA on os) (hn : on ≤ 1000) :
    Calls Try.prog 23 #[.agg #[.slice oA on oc, .slice rA rn rc]] w fun e w' => e = .returned (.int .i64 (chkE os)) ∧ Kept (fun _ => False) w w' := by
  have H := Lib.hid h
  clear h
  go_enter Try.func23, Try.ntmps23
  go_wp2
  go_loopw [3, 9] (fun l i wr => ∃ k : Nat, k ≤ on ∧ i = .int .i64 (k : Int) ∧ l = .int .i64 (lastId 0 (os.take k)) ∧ chk 0 (os.take k) = true ∧ Kept (fun _ => False) w wr) (fun _ i _ => on - (intOf i).toNat)
  case atStart => exact ⟨0, Nat.zero_le _, rfl, rfl, rfl, (Kept.refl _ w).alloc _⟩
  case round =>
    obtain ⟨k, hk, rfl, rfl, hck, kk⟩ := hrel
    by_cases hlt : k < on
    · obtain ⟨b, off, hA, hbl, hcells⟩ := H.out.at_ (by omega)
      have hlen := H.out.len
      obtain ⟨d0, d1, d2, d3, d4⟩ := hcells k _ (List.getElem?_eq_getElem (by omega))
      have e0 := (kk.cell (p := ⟨b, off + k * 5, none⟩) hbl (by simp)).trans d0
      have e1 := (kk.cell (p := ⟨b, off + k * 5 + 1, none⟩) hbl (by simp)).trans d1
      have e2 := (kk.cell (p := ⟨b, off + k * 5 + 2, none⟩) hbl (by simp)).trans d2
      have e3 := (kk.cell (p := ⟨b, off + k * 5 + 3, none⟩) hbl (by simp)).trans d3
      have e4 := (kk.cell (p := ⟨b, off + k * 5 + 4, none⟩) hbl (by simp)).trans d4
      have HS := Lib.hid (chk_snoc os k (by omega))
      have HL := Lib.hid (lastId_snoc os k (by omega))
      have HCK := Lib.hid hck
      generalize os[k]'(by omega) = o at *
      generalize lastId 0 (os.take k) = l at *
      obtain ⟨oid, osz, owk, orA, orc, orefs, oeA, oec, oents⟩ := o
      simp only at e0 e1 e2 e3 e4 HL
      generalize orefs.length = rl at *
      generalize oents.length = el at *
      subst hA
      have b0 : (0 : Int) ≤ (k : Int) := by omega
      have b1 : (k : Int) < (on : Int) := by omega
      have hbw : b < wr.heap.size := Nat.lt_of_lt_of_le hbl kk.size
      have KK := Lib.hid kk
      have HF : Hid (okOb l ⟨oid, osz, owk, orA, orc, orefs, oeA, oec, oents⟩ = false → chk 0 os = false) := by
        intro hf
        cases hx : chk 0 os with
        | false => rfl
        | true =>
          have := chk_take (k + 1) hx
          rw [HS.out, hf] at this
          simp at this
      clear kk hcells d0 d1 d2 d3 d4 hlen hck
      by_cases h1 : oid ≤ l
      · have t1 : decide (oid ≤ l) = true := by simp [h1]
        go_wp2
        go_ret
        exact ⟨by rw [chkE, HF.out (by simp [okOb]; omega)]; rfl, KK.out.alloc _⟩
      · have t1 : decide (oid ≤ l) = false := by simp; omega
        by_cases h2 : osz < 0
        · have t2 : decide (osz < 0) = true := by simp [h2]
          go_wp2
          go_ret
          exact ⟨by rw [chkE, HF.out (by simp [okOb]; omega)]; rfl, KK.out.alloc _⟩
        · have t2 : decide (osz < 0) = false := by simp; omega
          by_cases h3 : owk < 0
          · have t3 : decide (owk < 0) = true := by simp [h3]
            go_wp2
            go_ret
            exact ⟨by rw [chkE, HF.out (by simp [okOb]; omega)]; rfl, KK.out.alloc _⟩
          · have t3 : decide (owk < 0) = false := by simp; omega
            by_cases h4 : 3 < owk
            · have t4 : decide (3 < owk) = true := by simp [h4]
              go_wp2
              go_ret
              exact ⟨by rw [chkE, HF.out (by simp [okOb]; omega)]; rfl, KK.out.alloc _⟩
            · have t4 : decide (3 < owk) = false := by simp; omega
              have HT : Hid (chk 0 (os.take (k + 1)) = true) := by
                show _ = _
                rw [HS.out, HCK.out]
                simp [okOb]
                omega
              go_wp2
              go_roundw
              case rel => exact ⟨k + 1, by omega, by go_num, by rw [HL.out], HT.out, KK.out.alloc _⟩
              case measure => simp [intOf]; omega
    · obtain rfl : k = on := by omega
      rw [List.take_of_length_le (by rw [H.out.len]; exact Nat.le_refl _)] at hck
      have HN := Lib.hid hck
      have KK := Lib.hid kk
      clear hck kk hlt
      generalize lastId 0 (os.take k) = l at *
      go_wp2
      go_ret
      exact ⟨by rw [chkE, HN.out]; rfl, KK.out⟩
end Go.Proofs.Ytalhldfcdfdoeaa
