/- What is proved here: the contract of each method of the reference's coroutine table over the plain table. Condition: the table lies in memory and is well formed. -/
import Derived.Test.YtmedmjngehkmoaaRefB
namespace Go.Proofs.Ytmedmjngehkmoaa
open Go.RowKit

/-- The reference has one state for 'ended' and 'closed'. -/
def code (s : Nat) : Nat := if s = 5 then 3 else s

theorem code_status (s : Nat) : W.statusOf (code s) = W.statusOf s := by
  unfold code
  by_cases h : s = 5
  · subst h; rfl
  · rw [if_neg h]

structure RRaw (w : World) (g r1 c1 r2 c2 : Nat) (ss bs : List Nat) (run : Nat) : Prop where
  blk : Blk w g 57 #[.slice (some ⟨r1, 0, none⟩) ss.length c1, .slice (some ⟨r2, 0, none⟩) ss.length c2, .int .i64 (run : Int)]
  row1 : w.ownsRow 0 3 1 (.slice (some ⟨r1, 0, none⟩) ss.length c1) ss.length (nums ss)
  row2 : w.ownsRow 0 3 1 (.slice (some ⟨r2, 0, none⟩) ss.length c2) ss.length (nums bs)
  ne : r1 ≠ r2

theorem nums_set (l : List Nat) (i s : Nat) : (nums l).set i (.int .i64 (s : Int)) = nums (l.set i s) := by
  unfold nums
  rw [List.map_set]
theorem nums_get (l : List Nat) {i : Nat} (hi : i < l.length) : (nums l)[i]? = some (.int .i64 ((l[i]?.getD 0 : Nat) : Int)) := by
  unfold nums
  simp [List.getElem?_eq_getElem hi]
theorem nums_length (l : List Nat) : (nums l).length = l.length := by simp [nums]

theorem row_ne {w : World} {g r n cap : Nat} {t e : TypeId} {size : Nat} {cs : Array Value} {xs : List Value} (hb : Blk w g t cs) (h : w.ownsRow 0 e size (.slice (some ⟨r, 0, none⟩) n cap) n xs) (hne : t ≠ e) : g ≠ r := by
  obtain ⟨_, hr | ⟨g', cap', cur, hv, _, hh, _⟩⟩ := h
  · simp at hr
  · have : r = g' := by simp at hv; exact hv.1
    subst this
    exact hb.ne_ (t' := e) hh hne

section
variable {w w' : World} {g r1 c1 r2 c2 : Nat} {ss bs : List Nat} {run : Nat}
theorem RRaw.ne1 (h : RRaw w g r1 c1 r2 c2 ss bs run) : g ≠ r1 := row_ne h.blk h.row1 (by decide)
theorem RRaw.ne2 (h : RRaw w g r1 c1 r2 c2 ss bs run) : g ≠ r2 := row_ne h.blk h.row2 (by decide)
theorem RRaw.blen (h : RRaw w g r1 c1 r2 c2 ss bs run) : bs.length = ss.length := by
  have := h.row2.1
  rw [nums_length] at this
  omega
theorem RRaw.cell0 (h : RRaw w g r1 c1 r2 c2 ss bs run) : w.cell? ⟨g, 0, none⟩ = some (.slice (some ⟨r1, 0, none⟩) ss.length c1) := h.blk.cell 0
theorem RRaw.cell1 (h : RRaw w g r1 c1 r2 c2 ss bs run) : w.cell? ⟨g, 1, none⟩ = some (.slice (some ⟨r2, 0, none⟩) ss.length c2) := h.blk.cell 1
theorem RRaw.cell2 (h : RRaw w g r1 c1 r2 c2 ss bs run) : w.cell? ⟨g, 2, none⟩ = some (.int .i64 (run : Int)) := h.blk.cell 2
theorem RRaw.st (h : RRaw w g r1 c1 r2 c2 ss bs run) {i : Nat} (hi : i < ss.length) : w.cell? ⟨r1, i, none⟩ = some (.int .i64 ((ss[i]?.getD 0 : Nat) : Int)) := by
  rw [h.row1.cellAt i (by omega), nums_get _ hi]
theorem RRaw.by_ (h : RRaw w g r1 c1 r2 c2 ss bs run) {i : Nat} (hi : i < ss.length) : w.cell? ⟨r2, i, none⟩ = some (.int .i64 ((bs[i]?.getD 0 : Nat) : Int)) := by
  rw [h.row2.cellAt i (by omega), nums_get _ (by have := h.blen; omega)]
theorem RRaw.drew (h : RRaw w g r1 c1 r2 c2 ss bs run) : RRaw w.drew g r1 c1 r2 c2 ss bs run := ⟨h.blk.drew, h.row1, h.row2, h.ne⟩
theorem RRaw.setSt (h : RRaw w g r1 c1 r2 c2 ss bs run) (i s : Nat) : RRaw (w.setCell ⟨r1, i, none⟩ (.int .i64 (s : Int))) g r1 c1 r2 c2 (ss.set i s) bs run := by
  have hs := (h.row1.stored i (.int .i64 (s : Int))).1
  rw [nums_set] at hs
  refine ⟨by rw [List.length_set]; exact h.blk.far h.ne1 _, by rw [List.length_set]; exact hs, ?_, h.ne⟩
  rw [List.length_set]
  exact ownsRow_setCell_other h.row2 (by simp [Value.ownBlock]; exact fun e => h.ne e.symm) _
theorem RRaw.setBy (h : RRaw w g r1 c1 r2 c2 ss bs run) (i s : Nat) : RRaw (w.setCell ⟨r2, i, none⟩ (.int .i64 (s : Int))) g r1 c1 r2 c2 ss (bs.set i s) run := by
  have hs := (h.row2.stored i (.int .i64 (s : Int))).1
  rw [nums_set] at hs
  exact ⟨h.blk.far h.ne2 _, ownsRow_setCell_other h.row1 (by simp [Value.ownBlock]; exact h.ne) _, hs, h.ne⟩
theorem RRaw.setRun (h : RRaw w g r1 c1 r2 c2 ss bs run) (n : Nat) : RRaw (w.setCell ⟨g, 2, none⟩ (.int .i64 (n : Int))) g r1 c1 r2 c2 ss bs n :=
  ⟨h.blk.set_ 2 _, ownsRow_setCell_other h.row1 (by simp [Value.ownBlock]; exact fun e => h.ne1 e.symm) _, ownsRow_setCell_other h.row2 (by simp [Value.ownBlock]; exact fun e => h.ne2 e.symm) _, h.ne⟩
theorem RRaw.kept {F : Nat → Prop} (h : RRaw w g r1 c1 r2 c2 ss bs run) (hk : Kept F w w') (hg : ¬ F g) (hr1 : ¬ F r1) (hr2 : ¬ F r2) : RRaw w' g r1 c1 r2 c2 ss bs run :=
  ⟨h.blk.kept hk hg, row_kept h.row1 hk hr1, row_kept h.row2 hk hr2, h.ne⟩
end

def RMem (w : World) (G : Nat → Prop) (g : Nat) (t : Tab) : Prop :=
  ∃ r1 c1 r2 c2 bs, G g ∧ G r1 ∧ G r2 ∧ (∀ k, G k → k < w.heap.size) ∧ RRaw w g r1 c1 r2 c2 (t.sts.map code) bs t.now ∧ Tab.Links t.chain bs
def RPost (w : World) (F : Nat → Prop) (g : Nat) (t : Tab) (w' : World) : Prop :=
  ∃ F', RMem w' F' g t ∧ Kept F w w' ∧ ∀ k, F' k → F k ∨ w.heap.size ≤ k
theorem RMem.same {w : World} {F : Nat → Prop} {g : Nat} {t : Tab} (h : RMem w F g t) : RPost w F g t w := ⟨F, h, Kept.refl _ _, fun _ h => .inl h⟩
theorem RMem.kept {w w' : World} {F G : Nat → Prop} {g : Nat} {t : Tab} (h : RMem w F g t) (hk : Kept G w w') (hd : ∀ k, F k → ¬ G k) : RMem w' F g t := by
  obtain ⟨r1, c1, r2, c2, bs, fg, f1, f2, lt, raw, hl⟩ := h
  exact ⟨r1, c1, r2, c2, bs, fg, f1, f2, fun k hf => Nat.lt_of_lt_of_le (lt k hf) hk.size, raw.kept hk (hd g fg) (hd r1 f1) (hd r2 f2), hl⟩
theorem RMem.lt {w : World} {F : Nat → Prop} {g : Nat} {t : Tab} (h : RMem w F g t) : ∀ k, F k → k < w.heap.size := by
  obtain ⟨_, _, _, _, _, _, _, _, h, _⟩ := h
  exact h
theorem RMem.later {w w' : World} {F : Nat → Prop} {g : Nat} {t : Tab} (h : RMem w F g t) (hk : Kept (fun _ => False) w w') : RPost w F g t w' :=
  ⟨F, h.kept hk (fun _ _ h => h), hk.mono (fun _ _ h => h.elim), fun _ h => .inl h⟩

section
variable {w : World} {F : Nat → Prop} {g : Nat} {t : Tab}

theorem code_get (t : Tab) {i : Nat} (hi : i < t.sts.length) : (t.sts.map code)[i]?.getD 0 = code (t.st i) := by
  simp [Tab.st, List.getElem?_eq_getElem hi]
theorem map_code_set (l : List Nat) (i s : Nat) : (l.set i s).map code = (l.map code).set i (code s) := by rw [List.map_set]

theorem q_new (w : World) : Calls Try.prog 23 #[] w fun e w' => e = .returned (.pointer (some ⟨w.heap.size + 1 + 1, 0, none⟩)) ∧ RPost w (fun _ => False) (w.heap.size + 1 + 1) Tab.init w' := by
  refine (R.new_any w).mono ?_
  rintro e w' ⟨rfl, rfl⟩
  refine ⟨rfl, fun k => k = w.heap.size ∨ k = w.heap.size + 1 ∨ k = w.heap.size + 1 + 1, ?_, (((Kept.refl _ w).alloc _).alloc _).alloc _, fun k hk => .inr (by omega)⟩
  refine ⟨w.heap.size, 1, w.heap.size + 1, 1, [0], .inr (.inr rfl), .inl rfl, .inr (.inl rfl), fun k hk => by simp; omega, ⟨?_, ?_, ?_, by omega⟩, trivial⟩
  · have := Blk.new ((w.alloc (.cells #[.int .i64 1] 3)).alloc (.cells #[.int .i64 0] 3)) 57 #[.slice (some ⟨w.heap.size, 0, none⟩) 1 1, .slice (some ⟨w.heap.size + 1, 0, none⟩) 1 1, .int .i64 0]
    rw [World.size_alloc, World.size_alloc] at this
    exact this
  · exact ((World.ownsRow_lit (base := 0) (e := 3) (size := 1) w #[.int .i64 1] 1 (Nat.zero_le _) (by decide) rfl).alloc _).alloc _
  · have := (World.ownsRow_lit (base := 0) (e := 3) (size := 1) (w.alloc (.cells #[.int .i64 1] 3)) #[.int .i64 0] 1 (Nat.zero_le _) (by decide) rfl).alloc (.cells #[.slice (some ⟨w.heap.size, 0, none⟩) 1 1, .slice (some ⟨w.heap.size + 1, 0, none⟩) 1 1, .int .i64 0] 57)
    rw [World.size_alloc] at this
    exact this

theorem q_running (h : RMem w F g t) : Calls Try.prog 35 #[.pointer (some ⟨g, 0, none⟩)] w fun e w' => e = .returned (.int .i64 (t.now : Int)) ∧ w = w' := by
  obtain ⟨r1, c1, r2, c2, bs, fg, f1, f2, lt, raw, hl⟩ := h
  exact R.running_any g _ w raw.cell2

theorem q_count (h : RMem w F g t) : Calls Try.prog 33 #[.pointer (some ⟨g, 0, none⟩)] w fun e w' => e = .returned (.int .i64 (t.sts.length : Int)) ∧ w = w' := by
  obtain ⟨r1, c1, r2, c2, bs, fg, f1, f2, lt, raw, hl⟩ := h
  have h1 := R.count_any g _ _ _ w raw.cell0
  rw [List.length_map] at h1
  exact h1

theorem q_status (h : RMem w F g t) (id : Int) : Calls Try.prog 34 #[.pointer (some ⟨g, 0, none⟩), .int .i64 id] w fun e w' => e = .returned (.string (t.status id)) ∧ w = w' := by
  obtain ⟨r1, c1, r2, c2, bs, fg, f1, f2, lt, raw, hl⟩ := h
  unfold Tab.status
  by_cases hi : id < 0 ∨ (t.sts.length : Int) ≤ id
  · rw [if_pos hi]
    exact R.status_no g r1 _ c1 id w raw.cell0 (by rw [List.length_map]; exact hi)
  · rw [if_neg hi]
    obtain ⟨i, rfl⟩ := Int.eq_ofNat_of_zero_le (by omega : 0 ≤ id)
    have hi' : i < t.sts.length := by omega
    have hst := raw.st (i := i) (by rw [List.length_map]; exact hi')
    rw [code_get t hi'] at hst
    rw [Int.toNat_natCast, ← code_status]
    exact R.status_yes g r1 _ c1 i _ w raw.cell0 (by rw [List.length_map]; exact hi') hst

theorem q_create (h : RMem w F g t) : Calls Try.prog 28 #[.pointer (some ⟨g, 0, none⟩)] w fun e w' => e = .returned (.tuple #[.int .i64 (t.create.1.1 : Int), .int .i64 (t.create.1.2 : Int)]) ∧ RPost w F g t.create.2 w' := by
  have hsame := h.same
  obtain ⟨r1, c1, r2, c2, bs, fg, f1, f2, lt, raw, hl⟩ := h
  have hlen : (t.sts.map code).length = t.sts.length := List.length_map ..
  unfold Tab.create
  by_cases hf : 65536 ≤ t.sts.length
  · rw [if_pos hf]
    refine (R.create_full g _ _ c1 w raw.cell0 (by omega)).mono ?_
    rintro e w' ⟨rfl, rfl⟩
    exact ⟨rfl, hsame⟩
  · rw [if_neg hf]
    refine (R.create_ok g r1 r2 _ c1 c2 _ _ _ w raw.blk raw.row1 raw.row2 (by omega) raw.ne1 raw.ne2 raw.ne).mono ?_
    rintro e w' ⟨rfl, r1', c1', r2', c2', hb', ho1, ho2, hk, a1, a2, hne⟩
    refine ⟨by rw [hlen]; rfl, fun k => F k ∨ w.heap.size ≤ k ∧ k < w'.heap.size, ?_, hk.mono (fun k _ hk => by rcases hk with rfl | rfl | rfl; exact fg; exact f1; exact f2), fun k hk => by rcases hk with h | h; exact .inl h; exact .inr h.1⟩
    have hl1 : r1' < w'.heap.size := (ho1.lt r1' rfl).2
    have hl2 : r2' < w'.heap.size := (ho2.lt r2' rfl).2
    refine ⟨r1', c1', r2', c2', bs ++ [0], .inl fg, ?_, ?_, fun k hk => ?_, ⟨?_, ?_, ?_, hne⟩, Tab.links_append hl _⟩
    · rcases a1 with rfl | h
      · exact .inl f1
      · exact .inr ⟨h, hl1⟩
    · rcases a2 with rfl | h
      · exact .inl f2
      · exact .inr ⟨h, hl2⟩
    · rcases hk with h | h
      · exact Nat.lt_of_lt_of_le (lt k h) hk.size
      · exact h.2
    · simp only [List.map_append, List.length_append]; exact hb'
    · simp only [List.map_append, List.length_append]
      rw [show nums (t.sts.map code ++ [0].map code) = nums (t.sts.map code) ++ [.int .i64 0] by simp [nums, code]]
      exact ho1
    · simp only [List.map_append, List.length_append]
      rw [show nums (bs ++ [0]) = nums bs ++ [.int .i64 0] by simp [nums]]
      exact ho2

theorem q_chain (hI : t.Inv) (h : RMem w F g t) : Calls Try.prog 36 #[.pointer (some ⟨g, 0, none⟩)] w fun e w' => ∃ v, e = .returned v ∧ Fresh w t.chain v w' := by
  obtain ⟨r1, c1, r2, c2, bs, fg, f1, f2, lt, raw, hl⟩ := h
  have hlen : (t.sts.map code).length = t.sts.length := List.length_map ..
  have hbl := raw.blen
  obtain ⟨k1, k2, k3⟩ := chain_facts hI (by omega) hl
  refine R.chain_walk g r2 _ c2 t.chain w raw.cell1 t.now raw.cell2 (lt _ fg) (lt _ f2) (Lib.hid k1) (Lib.hid hI.short) (Lib.hid fun k hk h0 => ?_) (Lib.hid k3)
  obtain ⟨h1, h2⟩ := k2 k hk h0
  refine ⟨h1, fun h => ?_⟩
  obtain ⟨h3, h4⟩ := h2 h
  refine ⟨by omega, ?_⟩
  rw [raw.by_ (by omega), h4]
  rfl

theorem q_resume (hI : t.Inv) (h : RMem w F g t) (id : Int) : Calls Try.prog 29 #[.pointer (some ⟨g, 0, none⟩), .int .i64 id] w fun e w' => e = .returned (.int .i64 ((t.resume id).1 : Int)) ∧ RPost w F g (t.resume id).2 w' := by
  have hsame := h.same
  have hm := h
  have hch : Calls Try.prog 36 #[.pointer (some ⟨g, 0, none⟩)] w (R.LenOnly w t.chain.length) := by
    refine (q_chain hI h).mono ?_
    rintro e w' ⟨v, rfl, r, cap, rfl, _, _, hk⟩
    exact ⟨_, _, rfl, hk⟩
  obtain ⟨r1, c1, r2, c2, bs, fg, f1, f2, lt, raw, hl⟩ := h
  have hlen : (t.sts.map code).length = t.sts.length := List.length_map ..
  unfold Tab.resume
  by_cases hr : id < 0 ∨ (t.sts.length : Int) ≤ id
  · rw [if_pos hr]
    refine (R.resume_range g _ _ c1 id w raw.cell0 (by rw [hlen]; exact hr)).mono ?_
    rintro e w' ⟨rfl, rfl⟩
    exact ⟨rfl, hsame⟩
  rw [if_neg hr]
  obtain ⟨i, rfl⟩ := Int.eq_ofNat_of_zero_le (by omega : 0 ≤ id)
  have hi : i < t.sts.length := by omega
  have hi' : i < (t.sts.map code).length := by omega
  have hst := raw.st hi'
  rw [code_get t hi] at hst
  simp only [Int.toNat_natCast]
  by_cases h3 : 3 ≤ t.st i
  · rw [if_pos h3]
    refine (R.resume_dead g r1 _ c1 i _ w raw.cell0 hi' hst (by unfold code; split <;> omega)).mono ?_
    rintro e w' ⟨rfl, rfl⟩
    exact ⟨rfl, hsame⟩
  rw [if_neg h3]
  have hcode : code (t.st i) = t.st i := by unfold code; rw [if_neg (by omega)]
  rw [hcode] at hst
  by_cases h0 : t.st i ≠ 0
  · rw [if_pos h0]
    refine (R.resume_state g r1 _ c1 i _ w raw.cell0 hi' hst (Nat.lt_of_not_le h3) h0).mono ?_
    rintro e w' ⟨rfl, rfl⟩
    exact ⟨rfl, hsame⟩
  rw [if_neg h0]
  have h0' : t.st i = 0 := by omega
  rw [h0'] at hst
  by_cases h9 : 9 ≤ t.chain.length
  · rw [if_pos h9]
    refine (R.resume_full g r1 _ c1 i _ w raw.cell0 hi' hst (Lib.hid hch) (by omega)).mono ?_
    rintro e w' ⟨rfl, hk⟩
    exact ⟨rfl, hm.later hk⟩
  rw [if_neg h9]
  have hn := hI.not_chain (i := i) (by omega) (by omega) (by omega)
  obtain ⟨a, c, ec⟩ := hI.some_
  have hnow : t.now < t.sts.length := hI.now_lt
  have hnow' : t.now < (t.sts.map code).length := by omega
  have hne : t.now ≠ i := by intro e; apply hn; rw [ec, ← e]; simp [Tab.now, ec]
  have hbl := raw.blen
  refine (R.resume_ok g r1 r2 _ c1 c2 t.now i t.chain.length _ _ w raw.cell0 raw.cell1 raw.cell2 (lt _ fg) (lt _ f1) (lt _ f2) (raw.blk.frozen 2) (raw.row1.frozenAt) (raw.row2.frozenAt) hi' hnow' hne raw.ne1 raw.ne2 raw.ne (raw.st hnow') hst (raw.by_ hi') (Lib.hid hch) (by omega)).mono ?_
  rintro e w' ⟨rfl, w1, hk1, rfl⟩
  have raw1 := raw.kept hk1 (by simp) (by simp) (by simp)
  have hraw := ((((raw1.setSt t.now 2).setSt i 1).setBy i t.now).setRun i).drew.drew
  have hk : Kept F w ((((w1.setCell ⟨r1, t.now, none⟩ (.int .i64 2)).setCell ⟨r1, i, none⟩ (.int .i64 1)).setCell ⟨r2, i, none⟩ (.int .i64 t.now)).setCell ⟨g, 2, none⟩ (.int .i64 i)).drew.drew :=
    (((((((hk1.mono (G := F) (fun _ _ h => h.elim)).setCell (fun _ => f1) _).setCell (fun _ => f1) _).setCell (fun _ => f2) _).setCell (fun _ => fg) _).drew).drew)
  refine ⟨rfl, F, ⟨r1, c1, r2, c2, bs.set i t.now, fg, f1, f2, fun k hk' => Nat.lt_of_lt_of_le (lt k hk') hk.size, ?_, ?_⟩, hk, fun k hk => .inl hk⟩
  · rw [map_code_set, map_code_set]
    exact hraw
  · refine Tab.links_cons (Tab.links_set hl hn) hI.now_eq ?_
    rw [List.getElem?_set_self (by omega)]

theorem q_leave (hI : t.Inv) (h : RMem w F g t) (hn : t.now ≠ 0) (s : Nat) (hs5 : s ≠ 5) :
    Calls Try.prog 37 #[.pointer (some ⟨g, 0, none⟩), .int .i64 (s : Int)] w fun e w' => e = .returned (.int .i64 ((t.back s).now : Int)) ∧ RPost w F g (t.back s) w' := by
  obtain ⟨r1, c1, r2, c2, bs, fg, f1, f2, lt, raw, hl⟩ := h
  have hlen : (t.sts.map code).length = t.sts.length := List.length_map ..
  have hbl := raw.blen
  obtain ⟨a, b, c, ec, ha⟩ := hI.two hn
  subst ha
  have hnow : t.now < (t.sts.map code).length := by rw [hlen]; exact hI.now_lt
  have hb : b < (t.sts.map code).length := by rw [hlen]; exact hI.lt b (by simp [ec])
  have hnd := hI.nodup
  rw [ec] at hnd hl
  have hne : t.now ≠ b := by intro e; rw [← e] at hnd; simp at hnd
  have hby := raw.by_ hnow
  rw [hl.1] at hby
  refine (R.leave_any g r1 r2 _ c1 c2 t.now b s _ _ w raw.cell0 raw.cell1 raw.cell2 (raw.blk.frozen 2) raw.row1.frozenAt hnow hb hne raw.ne1 raw.ne2 raw.ne (raw.st hnow) hby (raw.st hb)).mono ?_
  rintro e w' ⟨rfl, rfl⟩
  have hraw := (((raw.setSt t.now s).setSt b 1).setRun b).drew.drew
  have hk : Kept F w (((w.setCell ⟨r1, t.now, none⟩ (.int .i64 s)).setCell ⟨r1, b, none⟩ (.int .i64 1)).setCell ⟨g, 2, none⟩ (.int .i64 b)).drew.drew :=
    (((((Kept.refl F w).setCell (fun _ => f1) _).setCell (fun _ => f1) _).setCell (fun _ => fg) _).drew).drew
  have eb : t.back s = ⟨(t.sts.set t.now s).set b 1, b :: c⟩ := by
    unfold Tab.back
    rw [show t.chain.tail = b :: c by rw [ec]; rfl]
    rfl
  have en : (t.back s).now = b := by rw [eb]; rfl
  refine ⟨by rw [en], F, ⟨r1, c1, r2, c2, bs, fg, f1, f2, fun k hk' => Nat.lt_of_lt_of_le (lt k hk') hk.size, ?_, ?_⟩, hk, fun k hk => .inl hk⟩
  · rw [en, eb]
    show RRaw _ g r1 c1 r2 c2 (((t.sts.set t.now s).set b 1).map code) bs b
    rw [map_code_set, map_code_set, show code s = s by unfold code; rw [if_neg hs5]]
    exact hraw
  · rw [eb]; exact hl.2

set_option maxHeartbeats 400000 in
theorem q_yield (hI : t.Inv) (h : RMem w F g t) : Calls Try.prog 30 #[.pointer (some ⟨g, 0, none⟩)] w fun e w' => e = .returned (.tuple #[.int .i64 (t.yld.1.1 : Int), .int .i64 (t.yld.1.2 : Int)]) ∧ RPost w F g t.yld.2 w' := by
  have hc : w.cell? ⟨g, 2, none⟩ = some (.int .i64 (t.now : Int)) := by
    obtain ⟨r1, c1, r2, c2, bs, fg, f1, f2, lt, raw, hl⟩ := h
    exact raw.cell2
  unfold Tab.yld
  by_cases hn : t.now = 0
  · rw [if_pos hn]
    rw [hn] at hc
    have H := Lib.hid h
    clear h hI hn
    go_enter Try.func30, Try.ntmps30
    go_wp2
    go_ret2
    exact ⟨rfl, H.out.same⟩
  · rw [if_neg hn]
    have hb : ((t.now : Int) == 0) = false := by simp; exact hn
    have H := Lib.hid (q_leave hI h hn 0 (by omega))
    clear h hI hn
    generalize t.now = n at *
    go_enter Try.func30, Try.ntmps30
    go_wp2_with fail
    refine H.out.mono ?_
    rintro e w' ⟨rfl, hp⟩
    have HP := Lib.hid hp
    clear hp H
    go_wp2
    go_ret2
    exact ⟨rfl, HP.out⟩

set_option maxHeartbeats 400000 in
theorem q_end (hI : t.Inv) (h : RMem w F g t) (b : Bool) : Calls Try.prog 31 #[.pointer (some ⟨g, 0, none⟩), .bool b] w fun e w' => e = .returned (.tuple #[.int .i64 ((t.fin b).1.1 : Int), .int .i64 ((t.fin b).1.2 : Int)]) ∧ RPost w F g (t.fin b).2 w' := by
  have hc : w.cell? ⟨g, 2, none⟩ = some (.int .i64 (t.now : Int)) := by
    obtain ⟨r1, c1, r2, c2, bs, fg, f1, f2, lt, raw, hl⟩ := h
    exact raw.cell2
  unfold Tab.fin
  by_cases hn : t.now = 0
  · rw [if_pos hn]
    rw [hn] at hc
    have H := Lib.hid h
    clear h hI hn
    go_enter Try.func31, Try.ntmps31
    go_wp2
    go_ret2
    exact ⟨rfl, H.out.same⟩
  · rw [if_neg hn]
    have hb : ((t.now : Int) == 0) = false := by simp; exact hn
    cases b
    · have H := Lib.hid (q_leave hI h hn 3 (by omega))
      clear h hI hn
      generalize t.now = n at *
      go_enter Try.func31, Try.ntmps31
      go_wp2_with fail
      refine H.out.mono ?_
      rintro e w' ⟨rfl, hp⟩
      have HP := Lib.hid hp
      clear hp H
      go_wp2
      go_ret2
      exact ⟨rfl, HP.out⟩
    · have H := Lib.hid (q_leave hI h hn 4 (by omega))
      clear h hI hn
      generalize t.now = n at *
      go_enter Try.func31, Try.ntmps31
      go_wp2_with fail
      refine H.out.mono ?_
      rintro e w' ⟨rfl, hp⟩
      have HP := Lib.hid hp
      clear hp H
      go_wp2
      go_ret2
      exact ⟨rfl, HP.out⟩

theorem q_close (hI : t.Inv) (h : RMem w F g t) (id : Int) : Calls Try.prog 32 #[.pointer (some ⟨g, 0, none⟩), .int .i64 id] w fun e w' => e = .returned (.int .i64 ((t.close id).1 : Int)) ∧ RPost w F g (t.close id).2 w' := by
  have hsame := h.same
  obtain ⟨r1, c1, r2, c2, bs, fg, f1, f2, lt, raw, hl⟩ := h
  have hlen : (t.sts.map code).length = t.sts.length := List.length_map ..
  unfold Tab.close
  by_cases hr : id < 0 ∨ (t.sts.length : Int) ≤ id
  · rw [if_pos hr]
    refine (R.close_range g _ _ c1 id w raw.cell0 (by rw [hlen]; exact hr)).mono ?_
    rintro e w' ⟨rfl, rfl⟩
    exact ⟨rfl, hsame⟩
  rw [if_neg hr]
  obtain ⟨i, rfl⟩ := Int.eq_ofNat_of_zero_le (by omega : 0 ≤ id)
  have hi : i < t.sts.length := by omega
  have hi' : i < (t.sts.map code).length := by omega
  have hst := raw.st hi'
  rw [code_get t hi] at hst
  simp only [Int.toNat_natCast]
  by_cases h3 : t.st i = 1 ∨ t.st i = 2
  · rw [if_pos h3]
    refine (R.close_state g r1 _ c1 i _ w raw.cell0 hi' hst (by unfold code; rw [if_neg (by omega)]; exact h3)).mono ?_
    rintro e w' ⟨rfl, rfl⟩
    exact ⟨rfl, hsame⟩
  rw [if_neg h3]
  by_cases h5 : t.st i = 3 ∨ t.st i = 5
  · rw [if_pos h5]
    rw [show code (t.st i) = 3 by unfold code; split <;> omega] at hst
    refine (R.close_dead g r1 _ c1 i w raw.cell0 hi' hst).mono ?_
    rintro e w' ⟨rfl, rfl⟩
    exact ⟨rfl, hsame⟩
  rw [if_neg h5]
  have hle := hI.le i
  refine (R.close_ok g r1 _ c1 i _ w raw.cell0 hi' hst raw.row1.frozenAt (by unfold code; rw [if_neg (by omega)]; omega)).mono ?_
  rintro e w' ⟨rfl, rfl⟩
  have hraw := raw.setSt i 3
  have hk : Kept F w (w.setCell ⟨r1, i, none⟩ (.int .i64 3)) := (Kept.refl F w).setCell (fun _ => f1) _
  refine ⟨rfl, F, ⟨r1, c1, r2, c2, bs, fg, f1, f2, fun k hk' => Nat.lt_of_lt_of_le (lt k hk') hk.size, ?_, hl⟩, hk, fun k hk => .inl hk⟩
  rw [map_code_set]
  exact hraw

end
end Go.Proofs.Ytmedmjngehkmoaa
