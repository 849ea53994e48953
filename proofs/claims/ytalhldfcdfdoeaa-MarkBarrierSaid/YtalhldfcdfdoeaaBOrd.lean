/- What is proved here: in a region that draws its order, an operation that yields one value as long as a condition on the world holds may be taken first, where the operations that break the condition wait for it. No condition. -/
import Derived.OrdersHeld
import Derived.Deep.RegionHeld
namespace Go.Proofs.Ytalhldfcdfdoeaa
section
variable {P : Program} {md : Region.Mode} {ops : Array Oper} {Q : Exit → Act → World → Prop} {S : World → Prop} {Br : Nat → Bool}

/-- Whatever comes up; S is kept but by those that break it. -/
def wpAnyB (P : Program) (md : Region.Mode) (ops : Array Oper) (Q : Exit → Act → World → Prop) (S : World → Prop) (Br : Nat → Bool) : Nat → Array Bool → Act → World → Prop
  | 0, listed, a, w => Region.ready md ops listed = [] ∧ Q .normal a w
  | n + 1, listed, a, w => (Region.ready md ops listed = [] → Q .normal a w) ∧
      ∀ i ∈ Region.ready md ops listed, wpOp P ops Q i (fun a' w' => (Br i = false → S w') ∧ wpAnyB P md ops Q S Br n (listed.setIfInBounds i true) a' w') a w

theorem wpAnyB.any : ∀ (n : Nat) (listed : Array Bool) (a : Act) (w : World), wpAnyB P md ops Q S Br n listed a w → wpAny P md ops Q n listed a w
  | 0, _, _, _, h => h
  | n + 1, _, _, _, h => ⟨h.1, fun i hi => wpOp_mono (fun a' w' hh => wpAnyB.any n _ a' w' hh.2) (h.2 i hi)⟩

theorem wp_region_B {id : Nat} {a : Act} {w : World} (hm : P.follows .mixedOrders = true) (h : wpAnyB P .any ops Q S Br ops.size (Array.replicate ops.size false) a w.drew) : (Code.region id ops true).wp P Q a w :=
  wp_region_any hm (wpAnyB.any _ _ _ _ h)

/-- Every operation that breaks S waits for i. -/
def breakersWait (md : Region.Mode) (ops : Array Oper) (Br : Nat → Bool) (i : Nat) : Bool :=
  (List.range ops.size).all fun j => !Br j || ((ops[j]?).map fun o => o.after.any fun e => Region.binds md e && e.on == i).getD false

theorem wpAnyB_first {i : Nat} {oi : Oper} {v : Value} (hi : ops[i]? = some oi) (hsel : ∀ (j : Nat) (o : Oper) cs b, ops[j]? = some o → o.op ≠ .select cs b) (hQ : ∀ c a w, Q (.panic c) (a.put oi.dst v) w → Q (.panic c) a w) (hbr : breakersWait md ops Br i = true) :
    ∀ (n : Nat) (listed : Array Bool) (a : Act) (w : World), (∀ j oj, ops[j]? = some oj → j ≠ i → listed.getD j true = false → (∀ e ∈ oj.after, Region.binds md e = true → e.on ≠ i) → oi.apart ops oj = true) →
      i ∈ Region.ready md ops listed → YieldsIf P ops S oi v a → S w → wpAnyB P md ops Q S Br n (listed.setIfInBounds i true) (a.put oi.dst v) w → (Br i = false) → wpAnyB P md ops Q S Br (n + 1) listed a w := by
  intro n
  induction n with
  | zero =>
    intro listed a w _ hr hy hS H hbi
    refine ⟨fun h => absurd hr (by rw [h]; simp), fun j hj => ?_⟩
    by_cases e : j = i
    · subst e
      exact hy.wpOp hi hS ⟨fun _ => hS, H⟩
    · have h2 := ready_mono hj e
      rw [H.1] at h2
      cases h2
  | succ n ih =>
    intro listed a w hfree hr hy hS H hbi
    refine ⟨fun h => absurd hr (by rw [h]; simp), fun j hj => ?_⟩
    by_cases e : j = i
    · subst e
      exact hy.wpOp hi hS ⟨fun _ => hS, H⟩
    · obtain ⟨hjf, oj, hoj, hjall⟩ := mem_ready.1 hj
      have hif := (mem_ready.1 hr).1
      have hun : listed.getD i false = false := by
        rcases Nat.lt_or_ge i listed.size with h' | h'
        · simpa [h'] using hif
        · simp [Array.getElem?_eq_none h']
      have hnot : ∀ e ∈ oj.after, Region.binds md e = true → e.on ≠ i := fun e he hb heq => by
        have := hjall e he hb
        rw [heq, hun] at this
        cases this
      have hBj : Br j = false := by
        cases hb : Br j with
        | false => rfl
        | true =>
          unfold breakersWait at hbr
          have := List.all_eq_true.1 hbr j (List.mem_range.2 (Array.getElem?_eq_some_iff.1 hoj).1)
          rw [hb, hoj] at this
          simp only [Bool.not_true, Bool.false_or, Option.map_some, Option.getD_some] at this
          obtain ⟨e', he', hb'⟩ := Array.any_eq_true'.1 this
          simp only [Bool.and_eq_true, beq_iff_eq] at hb'
          exact absurd hb'.2 (hnot e' he' hb'.1)
      have h1 := wpOp_putIf hoj (hfree j oj hoj e hjf hnot) (fun cs b => hsel i oi cs b hi) (fun cs b => hsel j oj cs b hoj) hQ hy (H.2 j (ready_mono hj e))
      refine wpOp_mono (fun a' w' h3 => ?_) h1
      obtain ⟨hy', hS', hrest⟩ := h3
      refine ⟨hS', ih (listed.setIfInBounds j true) a' w' (fun k ok hk hki hkl hno => hfree k ok hk hki ?_ hno) (ready_mono hr (fun h => e h.symm)) hy' (hS' hBj) ?_ hbi⟩
      · by_cases hjk : j = k
        · subst hjk; exact hjf
        · rwa [getD_set_ne true hjk] at hkl
      · rwa [Array.setIfInBounds_comm _ _ e]

theorem wpAnyB_take {i : Nat} {oi : Oper} {v : Value} {n : Nat} {listed : Array Bool} {a : Act} {w : World} (hi : ops[i]? = some oi) (hs : Region.noSelect ops = true) (hf : Region.free md ops listed i = true) (hr : (Region.ready md ops listed).contains i = true)
    (hbr : breakersWait md ops Br i = true) (hbi : Br i = false) (hQ : ∀ c a w, Q (.panic c) (a.put oi.dst v) w → Q (.panic c) a w) (hy : YieldsIf P ops S oi v a) (hS : S w)
    (h : wpAnyB P md ops Q S Br n (listed.setIfInBounds i true) (a.put oi.dst v) w) : wpAnyB P md ops Q S Br (n + 1) listed a w :=
  wpAnyB_first hi (Region.noSelect_spec hs) hQ hbr n listed a w (fun j oj => Region.free_spec hi hf j oj) (by simpa using hr) hy hS h hbi

/-- One of those that may come up is run. -/
theorem wpAnyB_ready {rs : List Nat} {n : Nat} {listed : Array Bool} {a : Act} {w : World} (hr : Region.ready md ops listed = rs) (hne : rs ≠ [])
    (h : ∀ i ∈ rs, wpOp P ops Q i (fun a' w' => (Br i = false → S w') ∧ wpAnyB P md ops Q S Br n (listed.setIfInBounds i true) a' w') a w) : wpAnyB P md ops Q S Br (n + 1) listed a w :=
  ⟨fun h0 => absurd (hr ▸ h0) hne, fun i hi => h i (hr ▸ hi)⟩
theorem wpAnyB_done {listed : Array Bool} {a : Act} {w : World} (hr : Region.ready md ops listed = []) (h : Q .normal a w) : ∀ n, wpAnyB P md ops Q S Br n listed a w
  | 0 => ⟨hr, h⟩
  | _ + 1 => ⟨fun _ => h, by rw [hr]; simp⟩
theorem wpOp_run {i : Nat} {o : Oper} {a : Act} {w : World} {K : Act → World → Prop} (ho : ops[i]? = some o)
    (h : ∀ K' : Act → World → Prop, Shut (∀ a w, K a w → K' a w) → if Region.wanted o (yielded ops a.tmps) = true then Oper.wp P o a w K' Q else K' (a.put o.dst undef) w) : wpOp P ops Q i K a w :=
  wpOp_step ho fun K' hK => h K' hK
end
end Go.Proofs.Ytalhldfcdfdoeaa
