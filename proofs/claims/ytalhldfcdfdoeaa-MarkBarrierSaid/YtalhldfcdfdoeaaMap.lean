/- What is proved here: a map from numbers to blocks that the call made: its look-ups, its stores, its length. No condition. -/
import Derived.Test.YtalhldfcdfdoeaaRow
import Derived.Maps.OwnSet
import Derived.Maps.OwnOps
namespace Go.Proofs.Ytalhldfcdfdoeaa
open Go.RowKit Go.Maps

/-- How a pointer to the head of a block reads. -/
def ptrR : Value → Option (DataW Unit × List MemPlace)
  | .pointer none => some (.nil, [])
  | .pointer (some a) => if a.off = 0 ∧ a.spot = none then some (.lit (.int .i64 a.block), []) else none
  | _ => none

theorem ptrR_inv {v : Value} {b : Nat} {ps : List MemPlace} (h : ptrR v = some (.lit (.int .i64 b), ps)) : v = .pointer (some ⟨b, 0, none⟩) := by
  unfold ptrR at h
  split at h
  · simp at h
  · rename_i a
    split at h
    · rename_i hc
      simp at h
      obtain ⟨h1, _⟩ := h
      obtain ⟨ab, ao, asp⟩ := a
      simp at hc h1
      obtain ⟨rfl, rfl⟩ := hc
      have : ab = b := by omega
      subst this
      rfl
    · cases h
  · cases h
theorem ptrR_nil {v : Value} {ps : List MemPlace} (h : ptrR v = some (.nil, ps)) : v = .pointer none := by
  unfold ptrR at h
  split at h
  · rfl
  · split at h <;> simp at h
  · cases h
theorem ptrR_mk (b : Nat) : ptrR (.pointer (some ⟨b, 0, none⟩)) = some (.lit (.int .i64 b), []) := by simp [ptrR]

def dput (D : DataW Unit) (p : Int × Nat) : DataW Unit := D.put (.int .i64 p.1) (.lit (.int .i64 p.2))
def dmap (ps : List (Int × Nat)) : DataW Unit := ps.foldl dput (.map [])

def I64 (x : Int) : Prop := (Lit.int .i64 x).wf = true
theorem isKey_int (x : Int) : WideAt.IsKeyLit (.int .i64 x) := by simp [WideAt.IsKeyLit]

theorem dput_isMap {D : DataW Unit} (h : IsMap D) (ps : List (Int × Nat)) : IsMap (ps.foldl dput D) := by
  induction ps generalizing D with
  | nil => exact h
  | cons p ps ih => exact ih (h.put _ _)
theorem dput_tidy {D : DataW Unit} (h : Tidy D) (ps : List (Int × Nat)) : Tidy (ps.foldl dput D) := by
  induction ps generalizing D with
  | nil => exact h
  | cons p ps ih => exact ih (h.put (isKey_int _) _)
theorem dput_far {id : Int} (ps : List (Int × Nat)) (D : DataW Unit) (h : ∀ p, p ∈ ps → p.1 ≠ id) (z : DataW Unit) : (ps.foldl dput D).atKey (.int .i64 id) z = D.atKey (.int .i64 id) z ∧ has (ps.foldl dput D) (.int .i64 id) = has D (.int .i64 id) := by
  induction ps generalizing D with
  | nil => exact ⟨rfl, rfl⟩
  | cons p ps ih =>
    obtain ⟨h1, h2⟩ := ih (dput D p) (fun q hq => h q (List.mem_cons_of_mem _ hq))
    have hne : (Lit.int .i64 id) ≠ .int .i64 p.1 := by
      intro e
      injection e with _ e
      exact h p (by simp) e.symm
    refine ⟨?_, ?_⟩
    · show (ps.foldl dput (dput D p)).atKey _ z = _
      rw [h1]
      exact atKey_put_other hne _ _
    · show has (ps.foldl dput (dput D p)) _ = _
      rw [h2]
      exact has_put_other hne _
theorem dmap_none {ps : List (Int × Nat)} {id : Int} (h : ∀ p, p ∈ ps → p.1 ≠ id) : (dmap ps).atKey (.int .i64 id) .nil = .nil ∧ has (dmap ps) (.int .i64 id) = false := by
  obtain ⟨h1, h2⟩ := dput_far ps (.map []) h .nil
  exact ⟨h1.trans rfl, h2.trans rfl⟩
theorem dmap_some {ps : List (Int × Nat)} (hd : ps.Pairwise fun p q => p.1 ≠ q.1) {id : Int} {b : Nat} (h : (id, b) ∈ ps) : (dmap ps).atKey (.int .i64 id) .nil = .lit (.int .i64 b) ∧ has (dmap ps) (.int .i64 id) = true := by
  obtain ⟨l1, l2, rfl⟩ := List.append_of_mem h
  unfold dmap
  rw [List.foldl_append, List.foldl_cons]
  have h2 : ∀ p, p ∈ l2 → p.1 ≠ id := by
    rw [List.pairwise_append] at hd
    have := (List.pairwise_cons.1 hd.2.1).1
    intro p hp e
    exact this p hp e.symm
  obtain ⟨g1, g2⟩ := dput_far l2 (dput (l1.foldl dput (.map [])) (id, b)) h2 .nil
  rw [g1, g2]
  have hm : IsMap (l1.foldl dput (.map [])) := dput_isMap isMap_empty l1
  exact ⟨atKey_put_same hm (isKey_int _) _ _, has_put_same hm (isKey_int _) _⟩
theorem dmap_size {ps : List (Int × Nat)} (hd : ps.Pairwise fun p q => p.1 ≠ q.1) : size (dmap ps) = ps.length := by
  unfold dmap
  have key : ∀ (ps : List (Int × Nat)) (D : DataW Unit), Tidy D → ps.Pairwise (fun p q => p.1 ≠ q.1) → (∀ p, p ∈ ps → has D (.int .i64 p.1) = false) → size (ps.foldl dput D) = size D + ps.length := by
    intro ps
    induction ps with
    | nil => intro D _ _ _; simp
    | cons p ps ih =>
      intro D ht hp hh
      obtain ⟨h1, h2⟩ := List.pairwise_cons.1 hp
      rw [List.foldl_cons, ih (dput D p) (ht.put (isKey_int _) _) h2 (fun q hq => ?_)]
      · unfold dput
        rw [size_put ht, hh p (by simp)]
        simp; omega
      · unfold dput
        rw [has_put_other]
        · exact hh q (List.mem_cons_of_mem _ hq)
        · intro e
          injection e with _ e
          exact h1 q hq e.symm
  rw [key ps (.map []) tidy_empty hd (fun _ _ => rfl)]
  simp [size_eq]

/-- Block b of w is the map that holds ps. -/
def MapM (w : World) (b : Nat) (ps : List (Int × Nat)) : Prop := w.ownsMap Try.prog 3 ptrR b ps.length (dmap ps)

theorem keyed : Keyed Try.prog 3 := int_keyed Try.underlying3
theorem zero56 (w : World) : (zeroValue 56).run Try.prog w = .ok (.pointer none) w := by kernel_rfl

section
variable {w w' : World} {b : Nat} {ps : List (Int × Nat)}
theorem MapM.lt (h : MapM w b ps) : b < w.heap.size := World.ownsMap.lt h
theorem MapM.made (w : World) : MapM (w.alloc (.map #[] 0)) w.heap.size [] := World.ownsMap_made w Try.prog 3 ptrR
theorem MapM.kept {F : Nat → Prop} (h : MapM w b ps) (hk : Kept F w w') (hF : ¬ F b) : MapM w' b ps := by
  have hlt := h.lt
  obtain ⟨es, clock, hb, r⟩ := h
  exact ⟨es, clock, (hk.block b hlt hF).trans hb, r⟩
theorem MapM.look_some (h : MapM w b ps) (hd : ps.Pairwise fun p q => p.1 ≠ q.1) {id : Int} {nb : Nat} (hm : (id, nb) ∈ ps) (hw : I64 id) :
    (Instr.lookup 53 (.map (some b)) (.int .i64 id) true).run Try.prog w = .ok (.tuple #[.pointer (some ⟨nb, 0, none⟩), .bool true]) w ∧ (Instr.lookup 53 (.map (some b)) (.int .i64 id) false).run Try.prog w = .ok (.pointer (some ⟨nb, 0, none⟩)) w := by
  obtain ⟨h1, h2⟩ := dmap_some hd hm
  have hkey : keyOf Try.prog 3 (.int .i64 id) = some (.int .i64 id) := keyOf_int_mk Try.underlying3 hw
  obtain ⟨v, q, hr, hv⟩ := World.ownsMap.look_ok h keyed Try.underlying53 (zero56 w) (zd := .nil) (zp := []) rfl hkey
  rw [h1] at hv
  have := ptrR_inv hv
  subst this
  rw [h2] at hr
  obtain ⟨v, q, hr', hv'⟩ := World.ownsMap.lookup h keyed Try.underlying53 (zero56 w) (zd := .nil) (zp := []) rfl hkey
  rw [h1] at hv'
  have := ptrR_inv hv'
  subst this
  exact ⟨hr, hr'⟩
theorem MapM.look_none (h : MapM w b ps) {id : Int} (hm : ∀ p, p ∈ ps → p.1 ≠ id) (hw : I64 id) :
    (Instr.lookup 53 (.map (some b)) (.int .i64 id) true).run Try.prog w = .ok (.tuple #[.pointer none, .bool false]) w := by
  obtain ⟨h1, h2⟩ := dmap_none hm
  have hkey : keyOf Try.prog 3 (.int .i64 id) = some (.int .i64 id) := keyOf_int_mk Try.underlying3 hw
  obtain ⟨v, q, hr, hv⟩ := World.ownsMap.look_ok h keyed Try.underlying53 (zero56 w) (zd := .nil) (zp := []) rfl hkey
  rw [h1] at hv
  have := ptrR_nil hv
  subst this
  rw [h2] at hr
  exact hr
theorem MapM.len (h : MapM w b ps) (hd : ps.Pairwise fun p q => p.1 ≠ q.1) (ty : TypeId) : (Builtin.len_ #[53] ty #[.map (some b)]).run Try.prog w = .ok (.int .i64 (ps.length : Nat)) w := by
  have := World.ownsMap.len h Try.underlying53 ty
  rw [dmap_size hd] at this
  exact this
theorem MapM.update (h : MapM w b ps) {id : Int} (hw : I64 id) (nb : Nat) (hn : ps.length < maxLen) :
    ∃ w', (Instr.mapUpdate 53 (.map (some b)) (.int .i64 id) (.pointer (some ⟨nb, 0, none⟩))).run Try.prog w = .ok () w' ∧ MapM w' b (ps ++ [(id, nb)]) ∧ w.grownBy w' (some b) := by
  have hkey : keyOf Try.prog 3 (.int .i64 id) = some (.int .i64 id) := keyOf_int_mk Try.underlying3 hw
  obtain ⟨w', h1, h2, h3⟩ := World.ownsMap.update h keyed Try.underlying53 hn hkey (ptrR_mk nb)
  refine ⟨w', h1, ?_, h3⟩
  unfold MapM
  rw [List.length_append]
  unfold dmap
  rw [List.foldl_append]
  exact h2
end
end Go.Proofs.Ytalhldfcdfdoeaa
