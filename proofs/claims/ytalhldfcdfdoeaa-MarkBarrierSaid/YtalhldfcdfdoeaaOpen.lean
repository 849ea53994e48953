/- What is proved here: an argument that is a graph, a slice of numbers or of bytes reads as plain lists. No condition. -/
import Derived.Test.YtalhldfcdfdoeaaUse
import Derived.Test.YtalhldfcdfdoeaaPost
import Derived.Deep.Slices
import Derived.Deep.Fields
import Derived.ChangeSame
import Derived.ChangeSlices
import Derived.OpenShut
import Derived.ShutString
import Derived.ChangeOld
import Derived.Lib.SmallJoins
namespace Go.Proofs.Ytalhldfcdfdoeaa
open Go.RowKit Go.ChangeShapes Go.WideShapes Go.Deep

section
variable {H : Type} {enc : TypeId × Value → H} {P : Program} {w : World} {base : Nat} {spare : Nat → Bool} {held : Bool}
theorem open_slice_fields {t e : TypeId} {fs : Array Field} {fuel : Nat} {cs : List Value} {x : DataW H × List MemPlace} (ht : P.underlying t = some (.slice e)) (he : P.underlying e = some (.struct fs))
    (hone : oneCellFields P fs = true) (hC : P.cellsOf e = fs.size) (h : DataW.trod enc P w base spare held fuel t cs = some x) :
    (cs = [.slice none 0 0] ∧ x = (.nil, [])) ∨
    ∃ (a : Addr) (len cap m : Nat) (D : Nat → DataW H) (Pl : Nat → List MemPlace), cs = [.slice (some a) len cap] ∧ base ≤ a.block ∧ len ≤ cap ∧ cap ≤ maxLen ∧ m = (if spare a.block then cap else len) ∧
      x = (.slice ((List.range len).map D) ((List.range (m - len)).map fun j => D (len + j)), MemPlace.row a (m * fs.size) ++ (List.range m).flatMap Pl) ∧
      ∀ i, i < m → ∃ (ys : List (DataW H × List MemPlace)) (n : Nat), D i = .agg (ys.map (·.1)) ∧ Pl i = ys.flatMap (·.2) ∧ ys.length = fs.size ∧
        ∀ (j : Nat) (f : Field), fs[j]? = some f → ∃ (v : Value) (y : DataW H × List MemPlace), w.cell? (a.add (i * fs.size + j)) = some v ∧ ys[j]? = some y ∧ DataW.trod enc P w base spare held n f.type [v] = some y := by
  rcases open_slice ht h with h0 | ⟨a, len, cap, m, n, D, Pl, hcs, hb, hl, hm, hmm, hx, hi⟩
  · exact .inl h0
  · refine .inr ⟨a, len, cap, m, D, Pl, hcs, hb, hl, hm, hmm, by rw [hC] at hx; exact hx, fun i him => ?_⟩
    obtain ⟨cs', hc, ht'⟩ := hi i him
    rw [hC] at hc
    obtain ⟨ys, n', hn', hy, hlen, hyl, hf⟩ := DataW.trod_struct he ht'
    obtain ⟨_, hcl, hat⟩ := World.cells?_some hc
    simp only [Prod.mk.injEq] at hy
    refine ⟨ys, n', hy.1, hy.2, hyl, fun j f hj => ?_⟩
    obtain ⟨ho, hk⟩ := hone_of hone j f hj
    have hjl : j < fs.size := (Array.getElem?_eq_some_iff.1 hj).1
    have hcell := hat j hjl
    have hv : cs'[j]? = some (cs'[j]'(by omega)) := List.getElem?_eq_getElem (by omega)
    have h1 := hf j f hj
    rw [ho, hk] at h1
    have hone' : (cs'.drop j).take 1 = [cs'[j]'(by omega)] := by
      rw [List.drop_eq_getElem_cons (by omega)]
      rfl
    rw [hone'] at h1
    have hys : ys[j]? = some (ys[j]'(by omega)) := List.getElem?_eq_getElem (by omega)
    refine ⟨_, _, ?_, hys, h1.trans hys⟩
    rw [← Go.Deep.add_add, hcell, hv]
end

theorem list_of {α : Type} (n : Nat) (P : Nat → α → Prop) (h : ∀ i, i < n → ∃ x, P i x) : ∃ xs : List α, xs.length = n ∧ ∀ i x, xs[i]? = some x → P i x := by
  induction n with
  | zero => exact ⟨[], rfl, fun i x hx => by simp at hx⟩
  | succ n ih =>
    obtain ⟨xs, hl, hp⟩ := ih (fun i hi => h i (by omega))
    obtain ⟨x, hx⟩ := h n (by omega)
    refine ⟨xs ++ [x], by simp [hl], fun i y hy => ?_⟩
    by_cases hi : i < n
    · rw [List.getElem?_append_left (by omega)] at hy
      exact hp i y hy
    · rw [List.getElem?_append_right (by omega)] at hy
      have : i = n := by
        rcases Nat.lt_or_ge (i - xs.length) 1 with h1 | h1
        · omega
        · rw [List.getElem?_eq_none (by simpa using h1)] at hy; cases hy
      subst this
      simp [hl] at hy
      subst hy
      exact hx

theorem own : ownKnob Try.prog.godebug = none := by kernel_rfl
theorem laidOut : laidOutB Try.prog = true := by kernel_rfl
theorem Try.cells3 : Try.prog.cellsOf 3 = 1 := by kernel_rfl
theorem Try.cells5 : Try.prog.cellsOf 5 = 1 := by kernel_rfl
theorem Try.cells39 : Try.prog.cellsOf 39 = 5 := by kernel_rfl
theorem Try.cells68 : Try.prog.cellsOf 68 = 2 := by kernel_rfl

/-- A slice of bytes that came in. -/
def Bts (w : World) (A : Option Addr) (n : Nat) (zs : List Int) : Prop :=
  zs.length = n ∧ (0 < n → ∃ g off, A = some ⟨g, off, none⟩ ∧ g < w.heap.size ∧ ∀ j z, zs[j]? = some z → w.cell? ⟨g, off + j, none⟩ = some (.int .u8 z) ∧ 0 ≤ z ∧ z < 256)

section
variable {H : Type} {enc : TypeId × Value → H} {V : World} {base : Nat} {held : Bool}
theorem addr_add (b off j : Nat) : (⟨b, off, none⟩ : Addr).add j = ⟨b, off + j, none⟩ := by
  unfold Addr.add
  split <;> simp_all
theorem spot_of {a : Addr} {j : Nat} {v : Value} (hj : j = 0) (h : V.cell? (a.add j) = some v) : ∃ b off, a = ⟨b, off, none⟩ ∧ b < V.heap.size := by
  subst hj
  have hs := World.cell?_spot h
  have hb := World.block_lt_of_cell? V _ h
  obtain ⟨b, off, spot⟩ := a
  simp [Addr.add] at hs
  subst hs
  simp [Addr.add] at hb
  exact ⟨b, off, rfl, hb⟩
theorem open_rs {fuel : Nat} {v : Value} {x : DataW H × List MemPlace} (h : DataW.trod enc Try.prog V base (fun _ => true) held fuel 23 [v] = some x) :
    ∃ A len cap ys, v = .slice A len cap ∧ Src V A len ys ∧ (A = none → len = 0 ∧ cap = 0) ∧ ∀ r, r ∈ ys → I64 r := by
  rcases open_ints Try.underlying23 Try.underlying3 Try.cells3 h with ⟨h1, _⟩ | ⟨a, len, cap, zs, h1, _, hl, hm, hz, _, hc, hw⟩
  · simp at h1
    subst h1
    exact ⟨none, 0, 0, [], rfl, ⟨rfl, fun h => by omega⟩, fun _ => ⟨rfl, rfl⟩, by simp⟩
  · simp at h1 hz
    subst h1
    refine ⟨some a, len, cap, zs.take len, rfl, ⟨by rw [List.length_take]; omega, fun hp => ?_⟩, fun h => (by cases h), fun r hr => hw r (List.mem_of_mem_take hr)⟩
    obtain ⟨b, off, rfl, hb⟩ := spot_of rfl (hc 0 (by omega))
    refine ⟨b, off, rfl, hb, fun j hj => ?_⟩
    have := hc j (by omega)
    rw [List.getElem?_take_of_lt hj, List.getElem?_eq_getElem (by omega), Option.map_some]
    rw [List.getD_eq_getElem?_getD, List.getElem?_eq_getElem (by omega), Option.getD_some, addr_add] at this
    exact this
theorem open_bts {fuel : Nat} {v : Value} {x : DataW H × List MemPlace} (h : DataW.trod enc Try.prog V base (fun _ => true) held fuel 26 [v] = some x) :
    ∃ A len cap ys, v = .slice A len cap ∧ Bts V A len ys := by
  rcases open_ints Try.underlying26 Try.underlying5 Try.cells5 h with ⟨h1, _⟩ | ⟨a, len, cap, zs, h1, _, hl, hm, hz, _, hc, hw⟩
  · simp at h1
    subst h1
    exact ⟨none, 0, 0, [], rfl, ⟨rfl, fun h => by omega⟩⟩
  · simp at h1 hz
    subst h1
    refine ⟨some a, len, cap, zs.take len, rfl, ⟨by rw [List.length_take]; omega, fun hp => ?_⟩⟩
    obtain ⟨b, off, rfl, hb⟩ := spot_of rfl (hc 0 (by omega))
    refine ⟨b, off, rfl, hb, fun j z hj => ?_⟩
    have hjl : j < len := by
      have := (List.getElem?_eq_some_iff.1 hj).1
      rw [List.length_take] at this
      omega
    have := hc j (by omega)
    rw [List.getElem?_take_of_lt hjl] at hj
    rw [List.getD_eq_getElem?_getD, hj, Option.getD_some, addr_add] at this
    have hwf := hw z (List.mem_of_getElem? hj)
    refine ⟨this, ?_⟩
    unfold Lit.wf at hwf
    rw [Bool.and_eq_true, decide_eq_true_eq, decide_eq_true_eq] at hwf
    have h1 : (IntKind.u8).min = 0 := by decide
    have h2 : (IntKind.u8).max = 255 := by decide
    rw [h1, h2] at hwf
    omega
theorem open_ents {fuel : Nat} {v : Value} {x : DataW H × List MemPlace} (h : DataW.trod enc Try.prog V base (fun _ => true) held fuel 37 [v] = some x) :
    ∃ A len cap kvs, v = .slice A len cap ∧ W.Ents V A len kvs ∧ ∀ r, r ∈ W.flatKV kvs → I64 r := by
  rcases open_slice_fields Try.underlying37 Try.underlying68 (by kernel_rfl) Try.cells68 h with ⟨h1, _⟩ | ⟨a, len, cap, m, D, Pl, h1, _, hl, hm, hmm, _, hi⟩
  · simp at h1
    subst h1
    exact ⟨none, 0, 0, [], rfl, ⟨rfl, fun h => by omega⟩, by simp [W.flatKV]⟩
  · simp at h1
    subst h1
    simp only [if_true] at hmm
    subst hmm
    obtain ⟨xs, hx, hP⟩ := list_of len (fun i (p : Int × Int) => V.cell? (a.add (i * 2)) = some (.int .i64 p.1) ∧ V.cell? (a.add (i * 2 + 1)) = some (.int .i64 p.2) ∧ I64 p.1 ∧ I64 p.2) (fun i hlt => by
      obtain ⟨ys, n, _, _, _, hff⟩ := hi i (by omega)
      obtain ⟨v0, y0, c0, _, r0⟩ := hff 0 _ rfl
      obtain ⟨v1, y1, c1, _, r1⟩ := hff 1 _ rfl
      obtain ⟨a0, q0, _, z0⟩ := DataW.trod_int Try.underlying3 r0
      obtain ⟨a1, q1, _, z1⟩ := DataW.trod_int Try.underlying3 r1
      simp at q0 q1
      subst q0 q1
      exact ⟨(a0, a1), c0, c1, z0, z1⟩)
    refine ⟨some a, len, m, xs, rfl, ⟨hx, fun hp => ?_⟩, fun r hr => ?_⟩
    · obtain ⟨c0, _⟩ := hP 0 xs[0] (List.getElem?_eq_getElem (by omega))
      obtain ⟨b, off, rfl, hb⟩ := spot_of (Nat.zero_mul _) c0
      exact ⟨b, off, rfl, hb, fun i p hp => by
        have h1 := (hP i p hp).1
        have h2 := (hP i p hp).2.1
        rw [addr_add] at h1 h2
        exact ⟨h1, h2⟩⟩
    · have key : ∀ l : List (Int × Int), (∀ p, p ∈ l → I64 p.1 ∧ I64 p.2) → ∀ r, r ∈ W.flatKV l → I64 r := by
        intro l
        induction l with
        | nil => simp [W.flatKV]
        | cons p l ih =>
          intro h r hr
          simp [W.flatKV] at hr
          rcases hr with rfl | rfl | hr
          · exact (h p (by simp)).1
          · exact (h p (by simp)).2
          · exact ih (fun q hq => h q (by simp [hq])) r hr
      refine key xs (fun p hp => ?_) r hr
      obtain ⟨i, hi⟩ := List.getElem?_of_mem hp
      exact (hP i p hi).2.2
theorem open_objs {fuel : Nat} {v : Value} {x : DataW H × List MemPlace} (h : DataW.trod enc Try.prog V base (fun _ => true) held fuel 22 [v] = some x) :
    ∃ A len cap os, v = .slice A len cap ∧ Objs V A len os ∧ ∀ o, o ∈ os → ObPre V o := by
  rcases open_slice_fields Try.underlying22 Try.underlying39 (by kernel_rfl) Try.cells39 h with ⟨h1, _⟩ | ⟨a, len, cap, m, D, Pl, h1, _, hl, hm, hmm, _, hi⟩
  · simp at h1
    subst h1
    exact ⟨none, 0, 0, [], rfl, ⟨rfl, fun h => by omega⟩, by simp⟩
  · simp at h1
    subst h1
    simp only [if_true] at hmm
    subst hmm
    obtain ⟨xs, hx, hP⟩ := list_of len (fun i (o : Ob) => (V.cell? (a.add (i * 5)) = some (.int .i64 o.id) ∧ V.cell? (a.add (i * 5 + 1)) = some (.int .i64 o.size) ∧ V.cell? (a.add (i * 5 + 2)) = some (.int .i64 o.weak) ∧ V.cell? (a.add (i * 5 + 3)) = some (.slice o.rA o.refs.length o.rc) ∧ V.cell? (a.add (i * 5 + 4)) = some (.slice o.eA o.ents.length o.ec)) ∧ ObPre V o) (fun i hlt => by
      obtain ⟨ys, n, _, _, _, hff⟩ := hi i (by omega)
      obtain ⟨v0, y0, c0, _, r0⟩ := hff 0 _ rfl
      obtain ⟨v1, y1, c1, _, r1⟩ := hff 1 _ rfl
      obtain ⟨v2, y2, c2, _, r2⟩ := hff 2 _ rfl
      obtain ⟨v3, y3, c3, _, r3⟩ := hff 3 _ rfl
      obtain ⟨v4, y4, c4, _, r4⟩ := hff 4 _ rfl
      obtain ⟨a0, q0, _, z0⟩ := DataW.trod_int Try.underlying3 r0
      obtain ⟨a1, q1, _, z1⟩ := DataW.trod_int Try.underlying3 r1
      obtain ⟨a2, q2, _, z2⟩ := DataW.trod_int Try.underlying3 r2
      obtain ⟨rA, rl, rc, rs, q3, s3, n3, i3⟩ := open_rs r3
      obtain ⟨eA, el, ec, es, q4, s4, i4⟩ := open_ents r4
      simp at q0 q1 q2
      subst q0 q1 q2 q3 q4
      have e3 := s3.1
      have e4 := s4.len
      subst e3 e4
      exact ⟨⟨a0, a1, a2, rA, rc, rs, eA, ec, es⟩, ⟨c0, c1, c2, c3, c4⟩, s3, n3, s4, z0, fun r hr => by rcases List.mem_append.1 hr with h | h; exact i3 r h; exact i4 r h⟩)
    refine ⟨some a, len, m, xs, rfl, ⟨hx, fun hp => ?_⟩, fun o ho => ?_⟩
    · obtain ⟨⟨c0, _⟩, _⟩ := hP 0 xs[0] (List.getElem?_eq_getElem (by omega))
      obtain ⟨b, off, rfl, hb⟩ := spot_of (Nat.zero_mul _) c0
      exact ⟨b, off, rfl, hb, fun i p hp => by
        have h1 := (hP i p hp).1
        rw [addr_add, addr_add, addr_add, addr_add, addr_add] at h1
        exact h1⟩
    · obtain ⟨i, hi⟩ := List.getElem?_of_mem ho
      exact (hP i o hi).2
end
end Go.Proofs.Ytalhldfcdfdoeaa
