/- What is proved here: what is black after all steps is closed: the roots that exist are in it, and so is each reference of its objects that exists. No condition beyond a proper graph. -/
import Derived.Test.YtalhldfcdfdoeaaAllReach
namespace Go.Proofs.Ytalhldfcdfdoeaa
open Go.RowKit

namespace Mk
theorem pos_reaches (l : List Int) (m : Mk) {j : Int} {c : Nat} (h : colOf m.nodes j = some c) (hc : c ≠ 0) : ∃ d, colOf (l.foldl reach m).nodes j = some d ∧ d ≠ 0 := by
  obtain ⟨d, h1, h2, _⟩ := col_reaches l m j c h
  exact ⟨d, h1, by omega⟩
theorem pos_one (m : Mk) {j : Int} {c : Nat} (h : colOf m.nodes j = some c) (hc : c ≠ 0) : ∃ d, colOf m.one.nodes j = some d ∧ d ≠ 0 := by
  unfold one
  match hq : m.queue with
  | [] => simp only; exact ⟨c, h, hc⟩
  | id :: q =>
    simp only
    obtain ⟨d, h1, h2⟩ := pos_reaches (allOf m.nodes id) ⟨m.nodes, q⟩ h hc
    rw [colOf_setCol]
    split
    · exact ⟨2, rfl, by omega⟩
    · exact ⟨d, h1, h2⟩
theorem pos_steps (m : Mk) (n : Nat) {j : Int} {c : Nat} (h : colOf m.nodes j = some c) (hc : c ≠ 0) : ∃ d, colOf (m.steps n).nodes j = some d ∧ d ≠ 0 := by
  induction n generalizing m c with
  | zero => exact ⟨c, h, hc⟩
  | succ n ih =>
    obtain ⟨d, h1, h2⟩ := pos_one m h hc
    exact ih m.one h1 h2
/-- Where nothing is gray, what is not white is black. -/
theorem Good.two {m : Mk} (h : Good m) (hq : m.queue = []) {j : Int} {c : Nat} (hc : colOf m.nodes j = some c) (h0 : c ≠ 0) : c = 2 := by
  obtain ⟨i, x, hx, _, hxc⟩ := find_index hc
  have hle := h.le x (List.mem_of_getElem? hx)
  have h1 : c ≠ 1 := by
    rintro rfl
    have := (h.gray j).2 hc
    rw [hq] at this
    cases this
  omega
end Mk

theorem mk0_sound (os : List Ob) : (mk0 os).Sound := by
  intro id hid
  obtain ⟨i, x, hx, _, hc⟩ := find_index hid
  have := List.mem_of_getElem? hx
  unfold mk0 at this
  obtain ⟨o, _, rfl⟩ := List.mem_map.1 this
  cases hc

section
variable {os : List Ob} {rs : List Int} (hck : chk 0 os = true)
/-- The marker of a graph at its end. -/
def mkEnd (os : List Ob) (rs : List Int) : Mk := (mkNew os rs).steps os.length
theorem end_same : Mk.Same (mkEnd os rs).nodes (mk0 os).nodes := (Mk.same_steps _ _).trans (Mk.same_reaches _ _)
include hck
theorem end_good : (mkEnd os rs).Good := (mkNew_good hck rs).steps _
theorem end_queue : (mkEnd os rs).queue = [] := by
  refine Mk.steps_end (mkNew_good hck rs) ?_
  show (rs.foldl Mk.reach (mk0 os)).nodes.length ≤ _
  rw [(Mk.same_reaches rs (mk0 os)).length]
  simp [mk0]
omit hck in
theorem end_sound : (mkEnd os rs).Sound := ((mk0_sound os).reaches rs).steps _
omit hck in
theorem end_some {o : Ob} (ho : o ∈ os) : ∃ c, Mk.colOf (mkEnd os rs).nodes o.id = some c := by
  have h1 := (end_same (os := os) (rs := rs)).isSome o.id
  have h2 : (Mk.colOf (mk0 os).nodes o.id).isSome = true := by
    unfold Mk.colOf mk0
    rw [Option.isSome_map, List.find?_isSome]
    exact ⟨ndOf o, List.mem_map_of_mem ho, by simp [ndOf]⟩
  rw [h2] at h1
  exact Option.isSome_iff_exists.1 h1
omit hck in
theorem mem_bl {m : Mk} {k : Nat} (hk : os.length ≤ k) {x : Int} : x ∈ bl m os k ↔ ∃ o, o ∈ os ∧ o.id = x ∧ Mk.colOf m.nodes x = some 2 := by
  unfold bl
  rw [List.take_of_length_le hk, List.mem_map]
  constructor
  · rintro ⟨o, ho, rfl⟩
    rw [List.mem_filter] at ho
    exact ⟨o, ho.1, rfl, by simpa using ho.2⟩
  · rintro ⟨o, ho, rfl, hc⟩
    exact ⟨o, List.mem_filter.2 ⟨ho, by simp [hc]⟩, rfl⟩
theorem end_all {o : Ob} (ho : o ∈ os) : Mk.allOf (mkEnd os rs).nodes o.id = o.refs ++ W.flatKV o.ents := by
  rw [(end_same (os := os) (rs := rs)).all]
  obtain ⟨i, hi⟩ := List.getElem?_of_mem ho
  have := allOf_index (l := (mk0 os).nodes) (mk0_good hck).asc (i := i) (x := ndOf o) (by unfold mk0; simp [hi])
  exact this
theorem end_root {r : Int} (hr : r ∈ rs) {o : Ob} (ho : o ∈ os) (e : o.id = r) : r ∈ bl (mkEnd os rs) os os.length := by
  subst e
  rw [mem_bl (Nat.le_refl _)]
  refine ⟨o, ho, rfl, ?_⟩
  have h1 : ∃ c, Mk.colOf (mkNew os rs).nodes o.id = some c := by
    have h1 := (Mk.same_reaches rs (mk0 os)).isSome o.id
    have h2 : (Mk.colOf (mk0 os).nodes o.id).isSome = true := by
      unfold Mk.colOf mk0
      rw [Option.isSome_map, List.find?_isSome]
      exact ⟨ndOf o, List.mem_map_of_mem ho, by simp [ndOf]⟩
    rw [h2] at h1
    exact Option.isSome_iff_exists.1 h1
  obtain ⟨c, hc⟩ := h1
  have hc0 : c ≠ 0 := by
    rintro rfl
    exact Mk.reached hr hc
  obtain ⟨d, hd, hd0⟩ := Mk.pos_steps (mkNew os rs) os.length hc hc0
  have := Mk.Good.two (end_good (rs := rs) hck) (end_queue hck) hd hd0
  rw [this] at hd
  exact hd
theorem end_ref {x r : Int} (hx : x ∈ bl (mkEnd os rs) os os.length) {p : Ob} (hp : p ∈ os) (ep : p.id = x) (hr : r ∈ p.refs ++ W.flatKV p.ents) {o : Ob} (ho : o ∈ os) (e : o.id = r) : r ∈ bl (mkEnd os rs) os os.length := by
  subst e
  rw [mem_bl (Nat.le_refl _)] at hx ⊢
  obtain ⟨_, _, _, hc⟩ := hx
  refine ⟨o, ho, rfl, ?_⟩
  obtain ⟨d, hd⟩ := end_some (rs := rs) ho
  rw [← end_all (rs := rs) hck hp, ep] at hr
  have h0 := end_sound x hc o.id hr
  have := Mk.Good.two (end_good (rs := rs) hck) (end_queue hck) hd (fun e => h0 (by rw [hd, e]))
  rw [this] at hd
  exact hd
theorem bl_asc (m : Mk) (k : Nat) : (bl m os k).Pairwise (· < ·) := by
  unfold bl
  rw [List.pairwise_map]
  exact ((chk_asc 0 os hck).2.sublist (List.take_sublist k os)).sublist List.filter_sublist
end
end Go.Proofs.Ytalhldfcdfdoeaa
