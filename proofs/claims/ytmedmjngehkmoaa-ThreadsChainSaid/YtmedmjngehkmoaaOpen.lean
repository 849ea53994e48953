/- What is proved here: an argument that is a slice of calls reads as a list of calls. No condition. -/
import Derived.Test.YtmedmjngehkmoaaMade
import Derived.Test.YtmedmjngehkmoaaPost
import Derived.Deep.Slices
import Derived.Deep.Fields
import Derived.ChangeSame
import Derived.OpenShut
import Derived.ShutString
import Derived.ChangeOld
import Derived.Lib.SmallJoins
namespace Go.Proofs.Ytmedmjngehkmoaa
open Go.RowKit Go.ChangeShapes Go.WideShapes Go.Deep

section
variable {H : Type} {enc : TypeId × Value → H} {P : Program} {w : World} {base : Nat} {spare : Nat → Bool} {held : Bool}
theorem open_slice_fields {t e : TypeId} {fs : Array Field} {fuel : Nat} {cs : List Value} {x : DataW H × List MemPlace} (ht : P.underlying t = some (.slice e)) (he : P.underlying e = some (.struct fs))
    (hone : oneCellFields P fs = true) (hC : P.cellsOf e = fs.size) (h : DataW.trod enc P w base spare held fuel t cs = some x) :
    (cs = [.slice none 0 0] ∧ x = (.nil, [])) ∨
    ∃ (a : Addr) (len cap m : Nat) (D : Nat → DataW H) (Pl : Nat → List MemPlace), cs = [.slice (some a) len cap] ∧ base ≤ a.block ∧ len ≤ cap ∧ cap ≤ maxLen ∧ m = (if spare a.block then cap else len) ∧
      x = (.slice ((List.range len).map D) ((List.range (m - len)).map fun j => D (len + j)), MemPlace.row a (m * fs.size) ++ (List.range m).flatMap Pl) ∧
      ∀ i, i < m → ∃ (ys : List (DataW H × List MemPlace)) (n : Nat), D i = .agg (ys.map (·.1)) ∧ Pl i = ys.flatMap (·.2) ∧ ys.length = fs.size ∧
        ∀ (j : Nat) (f : Field), fs[j]? = some f → ∃ (v : Value) (y : DataW H × List MemPlace), w.cell? (a.add (i * fs.size + j)) = some v ∧ ys[j]? = some y ∧ DataW.trod enc P w base spare held n f.type [v] = some y := by
  rcases open_slice ht h with h0 | ⟨a, len, cap, m, n, D, Pl, hcs, hb, hl, hm, hmm, hx, hi⟩
  · exact .inl h0
  · refine .inr ⟨a, len, cap, m, D, Pl, hcs, hb, hl, hm, hmm, by rw [hC] at hx; exact hx, fun i him => ?_⟩
    obtain ⟨cs', hc, ht'⟩ := hi i him
    rw [hC] at hc
    obtain ⟨ys, n', hn', hy, hlen, hyl, hf⟩ := DataW.trod_struct he ht'
    obtain ⟨_, hcl, hat⟩ := World.cells?_some hc
    simp only [Prod.mk.injEq] at hy
    refine ⟨ys, n', hy.1, hy.2, hyl, fun j f hj => ?_⟩
    obtain ⟨ho, hk⟩ := hone_of hone j f hj
    have hjl : j < fs.size := (Array.getElem?_eq_some_iff.1 hj).1
    have hcell := hat j hjl
    have hv : cs'[j]? = some (cs'[j]'(by omega)) := List.getElem?_eq_getElem (by omega)
    have h1 := hf j f hj
    rw [ho, hk] at h1
    have hone' : (cs'.drop j).take 1 = [cs'[j]'(by omega)] := by
      rw [List.drop_eq_getElem_cons (by omega)]
      rfl
    rw [hone'] at h1
    have hys : ys[j]? = some (ys[j]'(by omega)) := List.getElem?_eq_getElem (by omega)
    refine ⟨_, _, ?_, hys, h1.trans hys⟩
    rw [← Go.Deep.add_add, hcell, hv]
end

theorem list_of {α : Type} (n : Nat) (P : Nat → α → Prop) (h : ∀ i, i < n → ∃ x, P i x) : ∃ xs : List α, xs.length = n ∧ ∀ i x, xs[i]? = some x → P i x := by
  induction n with
  | zero => exact ⟨[], rfl, fun i x hx => by simp at hx⟩
  | succ n ih =>
    obtain ⟨xs, hl, hp⟩ := ih (fun i hi => h i (by omega))
    obtain ⟨x, hx⟩ := h n (by omega)
    refine ⟨xs ++ [x], by simp [hl], fun i y hy => ?_⟩
    by_cases hi : i < n
    · rw [List.getElem?_append_left (by omega)] at hy
      exact hp i y hy
    · rw [List.getElem?_append_right (by omega)] at hy
      have : i = n := by
        rcases Nat.lt_or_ge (i - xs.length) 1 with h1 | h1
        · omega
        · rw [List.getElem?_eq_none (by simpa using h1)] at hy; cases hy
      subst this
      simp [hl] at hy
      subst hy
      exact hx

theorem own : ownKnob Try.prog.godebug = none := by kernel_rfl
theorem laidOut : laidOutB Try.prog = true := by kernel_rfl
theorem Try.cells44 : Try.prog.cellsOf 44 = 3 := by kernel_rfl

section
variable {H : Type} {enc : TypeId × Value → H} {W : World} {base : Nat} {spare : Nat → Bool} {held : Bool}
theorem open_op {fs : Array Field} (hs : fs.size = 3) {n : Nat} {ys : List (DataW H × List MemPlace)} {a : Addr} {i : Nat}
    (f0 : (fs[0]?).map (·.type) = some 3) (f1 : (fs[1]?).map (·.type) = some 3) (f2 : (fs[2]?).map (·.type) = some 4)
    (hf : ∀ (j : Nat) (f : Field), fs[j]? = some f → ∃ (v : Value) (y : DataW H × List MemPlace), W.cell? (a.add (i * fs.size + j)) = some v ∧ ys[j]? = some y ∧ DataW.trod enc Try.prog W base spare held n f.type [v] = some y) :
    ∃ x : Tab.Op, W.cell? (a.add (i * 3)) = some (.int .i64 x.kind) ∧ W.cell? (a.add (i * 3 + 1)) = some (.int .i64 x.id) ∧ W.cell? (a.add (i * 3 + 2)) = some (.bool x.failed) := by
  rw [Option.map_eq_some_iff] at f0 f1 f2
  obtain ⟨g0, e0, t0⟩ := f0
  obtain ⟨g1, e1, t1⟩ := f1
  obtain ⟨g2, e2, t2⟩ := f2
  obtain ⟨v0, y0, c0, _, r0⟩ := hf 0 g0 e0
  obtain ⟨v1, y1, c1, _, r1⟩ := hf 1 g1 e1
  obtain ⟨v2, y2, c2, _, r2⟩ := hf 2 g2 e2
  rw [t0] at r0
  rw [t1] at r1
  rw [t2] at r2
  rw [hs] at c0 c1 c2
  obtain ⟨a0, q0, _, _⟩ := DataW.trod_int Try.underlying3 r0
  obtain ⟨a1, q1, _, _⟩ := DataW.trod_int Try.underlying3 r1
  obtain ⟨a2, q2, _⟩ := DataW.trod_bool Try.underlying4 r2
  simp at q0 q1 q2
  subst q0 q1 q2
  exact ⟨⟨a0, a1, a2⟩, c0, c1, c2⟩

theorem open_ops {a0 : Option Addr} {len cap : Nat} {d : DataW H} {p : List MemPlace} (h : DataW.Trod enc Try.prog W base (fun _ => true) held 32 (.slice a0 len cap) d p) : ∃ xs, Ops W a0 len xs := by
  obtain ⟨fuel, hf⟩ := h
  rcases open_slice_fields Try.underlying32 Try.underlying44 (by kernel_rfl) Try.cells44 hf with ⟨hcs, _⟩ | ⟨a, len', cap', m, D, Pl, hcs, _, hl, hm, hmm, _, hi⟩
  · simp [Value.cells] at hcs
    obtain ⟨rfl, rfl, rfl⟩ := hcs
    exact ⟨[], rfl, fun h => absurd h (by omega)⟩
  · simp [Value.cells] at hcs
    obtain ⟨rfl, rfl, rfl⟩ := hcs
    simp only [if_true] at hmm
    subst hmm
    obtain ⟨xs, hx, hP⟩ := list_of len (fun i (x : Tab.Op) => W.cell? (a.add (i * 3)) = some (.int .i64 x.kind) ∧ W.cell? (a.add (i * 3 + 1)) = some (.int .i64 x.id) ∧ W.cell? (a.add (i * 3 + 2)) = some (.bool x.failed)) (fun i hlt => by
      obtain ⟨ys, n, _, _, _, hff⟩ := hi i (by omega)
      exact open_op rfl rfl rfl rfl hff)
    refine ⟨xs, hx, fun hp => ?_⟩
    obtain ⟨c0, _, _⟩ := hP 0 xs[0] (List.getElem?_eq_getElem (by omega))
    have hs := World.cell?_spot c0
    obtain ⟨b, off, spot⟩ := a
    simp [Addr.add] at hs
    subst hs
    have hb := World.block_lt_of_cell? W _ c0
    simp [Addr.add] at hb
    refine ⟨b, off, rfl, hb, fun i x hx => ?_⟩
    obtain ⟨d0, d1, d2⟩ := hP i x hx
    refine ⟨?_, ?_, ?_⟩
    · rw [← d0]; congr 1; unfold Addr.add; split <;> simp_all
    · rw [← d1]; congr 1
    · rw [← d2]; congr 1
end
end Go.Proofs.Ytmedmjngehkmoaa
