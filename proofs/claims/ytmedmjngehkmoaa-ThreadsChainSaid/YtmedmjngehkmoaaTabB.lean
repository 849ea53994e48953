/- What is proved here: the contracts of Yield, End, Close and Chain of package threads over the plain table. Condition: the table lies in memory and is well formed. -/
import Derived.Test.YtmedmjngehkmoaaTabA
namespace Go.Proofs.Ytmedmjngehkmoaa
open Go.RowKit
section
variable {w : World} {F : Nat → Prop} {g : Nat} {t : Tab}

set_option maxHeartbeats 400000 in
theorem p_yield (hI : t.Inv) (h : PMem w F g t) : Calls Try.prog 13 #[.pointer (some ⟨g, 0, none⟩)] w fun e w' => e = .returned (.tuple #[.int .i64 (t.yld.1.1 : Int), .int .i64 (t.yld.1.2 : Int)]) ∧ PPost w F g t.yld.2 w' := by
  have hc : w.cell? ⟨g, 1, none⟩ = some (.int .i64 (t.now : Int)) := by
    obtain ⟨r, cap, l, _, _, _, raw, _⟩ := h
    exact raw.cell1
  unfold Tab.yld
  by_cases hn : t.now = 0
  · rw [if_pos hn]
    rw [hn] at hc
    have H := Lib.hid h
    clear h hI hn
    go_enter Try.func13, Try.ntmps13
    go_wp2
    go_ret2
    exact ⟨rfl, H.out.same⟩
  · rw [if_neg hn]
    have hb : ((t.now : Int) == 0) = false := by simp; exact hn
    have H := Lib.hid (p_back hI h hn 0)
    clear h hI hn
    generalize t.now = n at *
    go_enter Try.func13, Try.ntmps13
    go_wp2_with fail
    refine H.out.mono ?_
    rintro e w' ⟨rfl, hp⟩
    have HP := Lib.hid hp
    clear hp H
    go_wp2
    go_ret2
    exact ⟨rfl, HP.out⟩

set_option maxHeartbeats 400000 in
theorem p_end (hI : t.Inv) (h : PMem w F g t) (b : Bool) : Calls Try.prog 14 #[.pointer (some ⟨g, 0, none⟩), .bool b] w fun e w' => e = .returned (.tuple #[.int .i64 ((t.fin b).1.1 : Int), .int .i64 ((t.fin b).1.2 : Int)]) ∧ PPost w F g (t.fin b).2 w' := by
  have hc : w.cell? ⟨g, 1, none⟩ = some (.int .i64 (t.now : Int)) := by
    obtain ⟨r, cap, l, _, _, _, raw, _⟩ := h
    exact raw.cell1
  unfold Tab.fin
  by_cases hn : t.now = 0
  · rw [if_pos hn]
    rw [hn] at hc
    have H := Lib.hid h
    clear h hI hn
    go_enter Try.func14, Try.ntmps14
    go_wp2
    go_ret2
    exact ⟨rfl, H.out.same⟩
  · rw [if_neg hn]
    have hb : ((t.now : Int) == 0) = false := by simp; exact hn
    cases b
    · have H := Lib.hid (p_back hI h hn 3)
      clear h hI hn
      generalize t.now = n at *
      go_enter Try.func14, Try.ntmps14
      go_wp2_with fail
      refine H.out.mono ?_
      rintro e w' ⟨rfl, hp⟩
      have HP := Lib.hid hp
      clear hp H
      go_wp2
      go_ret2
      exact ⟨rfl, HP.out⟩
    · have H := Lib.hid (p_back hI h hn 4)
      clear h hI hn
      generalize t.now = n at *
      go_enter Try.func14, Try.ntmps14
      go_wp2_with fail
      refine H.out.mono ?_
      rintro e w' ⟨rfl, hp⟩
      have HP := Lib.hid hp
      clear hp H
      go_wp2
      go_ret2
      exact ⟨rfl, HP.out⟩

theorem p_close (hI : t.Inv) (h : PMem w F g t) (id : Int) : Calls Try.prog 19 #[.pointer (some ⟨g, 0, none⟩), .int .i64 id] w fun e w' => e = .returned (.int .i64 ((t.close id).1 : Int)) ∧ PPost w F g (t.close id).2 w' := by
  have hsame := h.same
  obtain ⟨r, cap, l, fg, fr, lt, raw, hs, hl⟩ := h
  have hlen := Tab.len_eq hs
  unfold Tab.close
  by_cases hr : id < 0 ∨ (t.sts.length : Int) ≤ id
  · rw [if_pos hr]
    refine (W.close_range g r _ cap id w raw.cell0 (by rw [hlen]; exact hr)).mono ?_
    rintro e w' ⟨rfl, rfl⟩
    exact ⟨rfl, hsame⟩
  rw [if_neg hr]
  obtain ⟨i, rfl⟩ := Int.eq_ofNat_of_zero_le (by omega : 0 ≤ id)
  have hi : i < l.length := by omega
  have hst := raw.st hi
  rw [hs] at hst
  simp only [Int.toNat_natCast]
  by_cases h3 : t.st i = 1 ∨ t.st i = 2
  · rw [if_pos h3]
    refine (W.close_state g r _ cap i _ w raw.cell0 hi hst h3).mono ?_
    rintro e w' ⟨rfl, rfl⟩
    exact ⟨rfl, hsame⟩
  rw [if_neg h3]
  by_cases h5 : t.st i = 3 ∨ t.st i = 5
  · rw [if_pos h5]
    refine (W.close_dead g r _ cap i _ w raw.cell0 hi hst h5).mono ?_
    rintro e w' ⟨rfl, rfl⟩
    exact ⟨rfl, hsame⟩
  rw [if_neg h5]
  have hle := hI.le i
  have hn := hI.not_chain (i := i) (by omega) (by omega) (by omega)
  refine (W.close_ok g r _ cap i _ _ w raw.cell0 hi hst (raw.by_ hi) raw.fr (by show t.st i = 0 ∨ t.st i = 4; omega)).mono ?_
  rintro e w' ⟨rfl, rfl⟩
  have hraw := (raw.set0 i 5).set1 i 0
  have hk : Kept F w ((w.setCell ⟨r, i * 2, none⟩ (.int .i64 5)).setCell ⟨r, i * 2 + 1, none⟩ (.int .i64 0)) := ((Kept.refl F w).setCell (fun _ => fr) _).setCell (fun _ => fr) _
  refine ⟨rfl, F, ⟨r, cap, set1 (set0 l i 5) i 0, fg, fr, fun k hk' => Nat.lt_of_lt_of_le (lt k hk') hk.size, ?_, ?_, ?_⟩, hk, fun k hk => .inl hk⟩
  · exact hraw
  · rw [set1_fst, set0_fst, hs]
  · rw [set1_snd, set0_snd]
    exact Tab.links_set hl hn

/-- The numbers as values. -/
def nums (xs : List Nat) : List Value := xs.map fun n => Value.int .i64 ((n : Nat) : Int)

/-- The slice v holds the numbers xs, in memory that is new since w. -/
def Fresh (w : World) (xs : List Nat) (v : Value) (w' : World) : Prop :=
  ∃ r cap, v = .slice (some ⟨r, 0, none⟩) xs.length cap ∧ w'.ownsRow 0 3 1 (.slice (some ⟨r, 0, none⟩) xs.length cap) xs.length (nums xs) ∧ w.heap.size ≤ r ∧ Kept (fun _ => False) w w'

def lenOf : Value → Nat | .slice _ n _ => n | _ => 0

theorem Fresh.start (w : World) (n : Nat) : Fresh w [n] (.slice (some ⟨w.heap.size, 0, none⟩) 1 1) (w.alloc (.cells #[.int .i64 (n : Int)] 3)) :=
  ⟨w.heap.size, 1, rfl, World.ownsRow_lit (base := 0) (e := 3) (size := 1) w #[.int .i64 (n : Int)] 1 (Nat.zero_le _) (by decide) rfl, Nat.le_refl _, (Kept.refl _ w).alloc _⟩

theorem chain_next {c bs : List Nat} (hl : Tab.Links c bs) (hlast : c.getLast? = some 0) (k : Nat) (hk : k < c.length) (h0 : c[k] ≠ 0) : k + 1 < c.length ∧ ∀ h : k + 1 < c.length, bs[c[k]]? = some c[k + 1] := by
  induction c generalizing k with
  | nil => simp at hk
  | cons a c ih =>
    match c, k with
    | [], 0 => simp at hlast; simp at h0; exact absurd hlast h0
    | b :: c, 0 => exact ⟨by simp, fun _ => hl.1⟩
    | [], k + 1 => simp at hk
    | b :: c, k + 1 =>
      rw [List.getLast?_cons_cons] at hlast
      obtain ⟨h1, h2⟩ := ih hl.2 hlast k (by simpa using hk) (by simpa using h0)
      exact ⟨by simp at h1 ⊢; omega, fun h => by simpa using h2 h1⟩

theorem Fresh.push {w w1 wr : World} {xs : List Nat} {r cap r' cap' b : Nat} (hle : w.heap.size ≤ r) (hk : Kept (fun _ => False) w wr)
    (hown' : w1.ownsRow 0 3 1 (.slice (some ⟨r', 0, none⟩) (xs.length + 1) cap') (xs.length + 1) (nums xs ++ [.int .i64 (b : Int)]))
    (hg : (wr.alloc (.cells #[.int .i64 (b : Int)] 3)).grownBy w1 (some r))
    (hat : (Value.slice (some ⟨r, 0, none⟩) xs.length cap).ownBlock = some r' ∨ r' = wr.heap.size + 1) :
    Fresh w (xs ++ [b]) (.slice (some ⟨r', 0, none⟩) (xs.length + 1) cap') w1 := by
  refine ⟨r', cap', by simp, by simpa [nums] using hown', ?_, (hk.alloc _).grown hg (fun k hk' hlt => by injection hk' with e; omega)⟩
  rcases hat with h | h
  · simp [Value.ownBlock] at h; omega
  · have := hk.size; omega

set_option maxHeartbeats 1000000 in
theorem W.chain_walk (g r len cap : Nat) (c : List Nat) (w : World) (h0 : w.cell? ⟨g, 0, none⟩ = some (.slice (some ⟨r, 0, none⟩) len cap))
    (n0 : Nat) (h1 : w.cell? ⟨g, 1, none⟩ = some (.int .i64 (n0 : Int))) (hlt : g < w.heap.size) (hrlt : r < w.heap.size)
    (HC : Hid (∃ h : 0 < c.length, c[0] = n0)) (HL : Hid (c.length ≤ 9)) (HN : Hid (∀ k, (hk : k < c.length) → c[k] ≠ 0 → k + 1 < c.length ∧ ∀ h : k + 1 < c.length, c[k] < len ∧ w.cell? ⟨r, c[k] * 2 + 1, none⟩ = some (.int .i64 (c[k + 1] : Int)))) 
    (HZ : Hid (∀ k, (hk : k < c.length) → c[k] = 0 → k + 1 = c.length)) :
    Calls Try.prog 20 #[.pointer (some ⟨g, 0, none⟩)] w fun e w' => ∃ v, e = .returned v ∧ Fresh w c v w' := by
  obtain ⟨i0, hi0, hz0, hz1, hz2⟩ := info_parts Try.info3
  go_enter Try.func20, Try.ntmps20
  go_wp2
  go_loopw [3, 4] (fun v i wr => ∃ k, ∃ hk : k < c.length, i = .int .i64 (c[k] : Int) ∧ Fresh w (c.take (k + 1)) v wr) (fun v _ _ => c.length - lenOf v)
  case atStart =>
    obtain ⟨hp, he⟩ := HC.out
    refine ⟨0, hp, by rw [he], ?_⟩
    have : c.take (0 + 1) = [n0] := by
      match c, hp, he with
      | a :: c, _, he => simp at he; simp [he]
    rw [this]
    exact Fresh.start w n0
  case round =>
    obtain ⟨k, hk, rfl, hf⟩ := hrel
    have hl := HL.out
    have htl : (c.take (k + 1)).length = k + 1 := by simp; omega
    by_cases hz : c[k] = 0
    · have he := HZ.out k hk hz
      have htk : c.take (k + 1) = c := List.take_of_length_le (by omega)
      rw [htk] at hf
      have HF := Lib.hid hf
      rw [hz]
      clear hf htk he hz htl hl hk
      go_wp2
      go_ret
      exact ⟨_, rfl, HF.out⟩
    · obtain ⟨hk1, hn⟩ := HN.out k hk hz
      obtain ⟨hclt, hcell⟩ := hn hk1
      have htake : c.take (k + 1 + 1) = c.take (k + 1) ++ [c[k + 1]] := by rw [List.take_succ_eq_append_getElem (by omega)]
      obtain ⟨r', cap', rfl, hown, hle, hkept⟩ := hf
      rw [htl] at hown
      have hnz : ((c[k] : Int) != 0) = true := by simp; exact hz
      have c0 := (hkept.cell (p := ⟨g, 0, none⟩) hlt (by simp)).trans h0
      have c1 := (hkept.cell (p := ⟨r, c[k] * 2 + 1, none⟩) hrlt (by simp)).trans hcell
      have HT := Lib.hid htake
      have HTL := Lib.hid htl
      have hle9 : k + 1 < 9 := by omega
      have hb63 : k + 1 + 1 ≤ maxLen := by unfold maxLen; omega
      have HB := Lib.hid hb63
      rw [htl]
      generalize ea : c[k] = a at *
      generalize eb : c[k + 1] = b at *
      have EB := Lib.hid eb
      clear htake htl hz hn hcell hb63 ea eb h0 h1 hl
      go_wp2_with (at_builtin; refine wpList_append_row _ rfl _ _ 37 rfl 3 i0 _ 1 8 Try.underlying37 hi0 hz0 hz1 hz2 rfl (by decide) _ _ _ rfl (hown.alloc _) ⟨wr.heap.size, 0, none⟩ 1 1 [.int .i64 (b : Int)] rfl (by decide) rfl (cell_one_new _ _ _) (one_oneCell b) HB.out ?c4 ?_)
      case c4 => omega
      intro r2 cap2 w1 hown' hgrow hat
      have hf : Fresh w (c.take (k + 1 + 1)) (.slice (some ⟨r2, 0, none⟩) (k + 1 + 1) cap2) w1 := by
        have hh := Fresh.push (w := w) (wr := wr) (w1 := w1) (xs := c.take (k + 1)) (r := r') (cap := cap') (r' := r2) (cap' := cap2) (b := b) hle hkept
        rw [HTL.out] at hh
        rw [HT.out]
        exact hh hown' hgrow hat
      have HF := Lib.hid hf
      clear hf hown' hgrow hat hown hkept c0 c1
      go_wp2
      go_roundw
      case rel => exact ⟨k + 1, hk1, by rw [EB.out], HF.out⟩
      case measure => simp [lenOf]; omega

/-- The chain's members are linked in memory. -/
theorem chain_facts (hI : t.Inv) {bs : List Nat} (hlen : bs.length = t.sts.length) (hl : Tab.Links t.chain bs) :
    (∃ h : 0 < t.chain.length, t.chain[0] = t.now) ∧ (∀ k, (hk : k < t.chain.length) → t.chain[k] ≠ 0 → k + 1 < t.chain.length ∧ ∀ h : k + 1 < t.chain.length, t.chain[k] < bs.length ∧ bs[t.chain[k]]? = some t.chain[k + 1]) ∧
    (∀ k, (hk : k < t.chain.length) → t.chain[k] = 0 → k + 1 = t.chain.length) := by
  obtain ⟨a, c, e⟩ := hI.some_
  have hp : 0 < t.chain.length := by rw [e]; simp
  refine ⟨⟨hp, ?_⟩, fun k hk h0 => ?_, fun k hk h0 => ?_⟩
  · have := hI.now_eq
    rw [List.head?_eq_getElem?, List.getElem?_eq_getElem hp] at this
    exact Option.some.inj this
  · obtain ⟨h1, h2⟩ := chain_next hl hI.last k hk h0
    exact ⟨h1, fun h => ⟨by rw [hlen]; exact hI.lt _ (List.getElem_mem _), h2 h⟩⟩
  · have hlast := hI.last
    rw [List.getLast?_eq_getElem?, List.getElem?_eq_getElem (by omega)] at hlast
    have h2 := Option.some.inj hlast
    have := (List.getElem_inj (h₀ := hk) (h₁ := by omega) hI.nodup).1 (h0.trans h2.symm)
    omega

theorem p_chain (hI : t.Inv) (h : PMem w F g t) : Calls Try.prog 20 #[.pointer (some ⟨g, 0, none⟩)] w fun e w' => ∃ v, e = .returned v ∧ Fresh w t.chain v w' := by
  obtain ⟨r, cap, l, fg, fr, lt, raw, hs, hl⟩ := h
  have hlen := Tab.len_eq hs
  obtain ⟨f1, f2, f3⟩ := chain_facts hI (by simp [hlen]) hl
  refine W.chain_walk g r l.length cap t.chain w raw.cell0 t.now raw.cell1 (lt _ fg) (lt _ fr) (Lib.hid f1) (Lib.hid hI.short) (Lib.hid fun k hk h0 => ?_) (Lib.hid f3)
  obtain ⟨h1, h2⟩ := f2 k hk h0
  refine ⟨h1, fun h => ?_⟩
  obtain ⟨h3, h4⟩ := h2 h
  rw [List.length_map] at h3
  refine ⟨h3, ?_⟩
  rw [raw.by_ h3, h4]
  rfl

end
end Go.Proofs.Ytmedmjngehkmoaa
