/- What is proved here: what New makes of a graph: no marker where it is not proper, else the marker of its objects with its roots reached. Condition: the argument lies in memory as that graph. -/
import Derived.Test.YtalhldfcdfdoeaaGraph
import Derived.Test.YtalhldfcdfdoeaaMem
namespace Go.Proofs.Ytalhldfcdfdoeaa
open Go.RowKit

def ndOf (o : Ob) : Nd := ⟨o.id, o.refs, W.flatKV o.ents, 0⟩
def mk0 (os : List Ob) : Mk := ⟨os.map ndOf, []⟩
def mkNew (os : List Ob) (rs : List Int) : Mk := rs.foldl Mk.reach (mk0 os)

theorem mm_push {w w3 : World} {ow : Nat → Option Nat} {g : Nat} {m : Mk} {mb qc : Nat} {qA : Option Addr} {nbs : List Nat} (hl : nbs.length = m.nodes.length) (o0 : ow g = some 0) (o1 : ow mb = some 1) 
    (hb : Blk w g 55 #[.map (some mb), .slice qA 0 qc])
    (hn : ∀ i x nb, m.nodes[i]? = some x → nbs[i]? = some nb → NodeAt w ow i nb x) (hlt : ∀ k t, ow k = some t → k < w.heap.size)
    (x : Nd) (nb c1 c2 : Nat) (A1 A2 : Option Addr) (hnb : Blk w3 nb 59 #[.slice A1 x.refs.length c1, .slice A2 x.ents.length c2, .int .i64 (x.col : Int)]) (r1 : Row w3 A1 x.refs.length c1 x.refs) (r2 : Row w3 A2 x.ents.length c2 x.ents)
    (hm3 : MapM w3 mb ((m.nodes.map Nd.id).zip nbs ++ [(x.id, nb)])) (k3 : Kept (fun k => k = mb) w w3) (f0 : w.heap.size ≤ nb) (f1 : ∀ r, rowBlk A1 = some r → w.heap.size ≤ r) (f2 : ∀ r, rowBlk A2 = some r → w.heap.size ≤ r)
    (n1 : rowBlk A1 ≠ some nb) (n2 : rowBlk A2 ≠ some nb) (n3 : ∀ r, rowBlk A1 = some r → rowBlk A2 ≠ some r) :
    ∃ ow', ow' g = some 0 ∧ ow' mb = some 1 ∧ Blk w3 g 55 #[.map (some mb), .slice qA 0 qc] ∧ MapM w3 mb (((m.nodes ++ [x]).map Nd.id).zip (nbs ++ [nb])) ∧ (∀ i y b, (m.nodes ++ [x])[i]? = some y → (nbs ++ [nb])[i]? = some b → NodeAt w3 ow' i b y) ∧ (∀ k t, ow' k = some t → k < w3.heap.size) ∧ ∀ k, Own ow' k → Own ow k ∨ w.heap.size ≤ k := by
  obtain ⟨ow', how⟩ : ∃ ow' : Nat → Option Nat, ow' = fun k => if k = nb then some (3 + 3 * m.nodes.length) else if rowBlk A1 = some k then some (4 + 3 * m.nodes.length) else if rowBlk A2 = some k then some (5 + 3 * m.nodes.length) else ow k := ⟨_, rfl⟩
  have hle : ∀ k t, ow k = some t → ow' k = some t := by
    intro k t ht
    have := hlt k t ht
    rw [how]
    simp only
    rw [if_neg (by omega), if_neg (fun e => by have := f1 k e; omega), if_neg (fun e => by have := f2 k e; omega)]
    exact ht
  have hne : ∀ k t, ow k = some t → t ≠ 1 → k ≠ mb := by
    rintro k t ht h1 rfl
    rw [o1] at ht
    injection ht with ht
    exact h1 ht.symm
  refine ⟨ow', hle _ _ o0, hle _ _ o1, hb.kept k3 (hne _ _ o0 (by omega)), ?_, ?_, ?_, ?_⟩
  · have : ((m.nodes ++ [x]).map Nd.id).zip (nbs ++ [nb]) = (m.nodes.map Nd.id).zip nbs ++ [(x.id, nb)] := by
      rw [List.map_append, List.zip_append (by simp [hl])]
      rfl
    rw [this]
    exact hm3
  · intro i y nb' hy hnb'
    rcases Nat.lt_trichotomy i m.nodes.length with hi | hi | hi
    · rw [List.getElem?_append_left hi] at hy
      rw [List.getElem?_append_left (by omega)] at hnb'
      refine (hn i y nb' hy hnb').kept k3 (fun k t hk ht => ?_) hle
      subst hk
      rw [o1] at ht
      injection ht with ht
      omega
    · subst hi
      rw [List.getElem?_append_right (Nat.le_refl _)] at hy
      rw [List.getElem?_append_right (by omega)] at hnb'
      simp at hy
      simp [hl] at hnb'
      subst hy hnb'
      refine ⟨A1, c1, A2, c2, hnb, r1, r2, ?_, ?_, ?_⟩
      · rw [how]; simp
      · intro r hr
        rw [how]
        simp only
        rw [if_neg (by rintro rfl; exact n1 hr), if_pos hr]
      · intro r hr
        rw [how]
        simp only
        rw [if_neg (by rintro rfl; exact n2 hr), if_neg (fun e => n3 r e hr), if_pos hr]
    · rw [List.getElem?_eq_none (by simp; omega)] at hy
      cases hy
  · intro k t ht
    rw [how] at ht
    simp only at ht
    split at ht
    · rename_i e; subst e; exact hnb.lt
    · split at ht
      · rename_i e; exact r1.blk_lt e
      · split at ht
        · rename_i e; exact r2.blk_lt e
        · exact Nat.lt_of_lt_of_le (hlt k t ht) k3.size
  · rintro k ⟨t, ht⟩
    rw [how] at ht
    simp only at ht
    split at ht
    · rename_i e; subst e; exact .inr f0
    · split at ht
      · rename_i e; exact .inr (f1 _ e)
      · split at ht
        · rename_i e; exact .inr (f2 _ e)
        · exact .inl ⟨t, ht⟩

theorem chk_asc : ∀ (l : Int) (os : List Ob), chk l os = true → (∀ o, o ∈ os → l < o.id) ∧ os.Pairwise fun a b => a.id < b.id
  | _, [], _ => ⟨by simp, List.Pairwise.nil⟩
  | l, o :: os, h => by
    rw [chk, Bool.and_eq_true] at h
    obtain ⟨h1, h2⟩ := h
    obtain ⟨g1, g2⟩ := chk_asc o.id os h2
    simp [okOb] at h1
    refine ⟨?_, List.pairwise_cons.2 ⟨g1, g2⟩⟩
    intro p hp
    rcases List.mem_cons.1 hp with rfl | hp
    · omega
    · have := g1 p hp; omega

theorem mk0_good {os : List Ob} (h : chk 0 os = true) : (mk0 os).Good := by
  refine ⟨?_, ?_, List.nodup_nil, ?_⟩
  · unfold mk0
    rw [List.pairwise_map]
    exact (chk_asc 0 os h).2
  · intro x hx
    unfold mk0 at hx
    obtain ⟨o, _, rfl⟩ := List.mem_map.1 hx
    exact Nat.zero_le 2
  · intro id
    constructor
    · intro h; cases h
    · intro h
      obtain ⟨i, x, hx, _, hc⟩ := find_index h
      have := List.mem_of_getElem? hx
      unfold mk0 at this
      obtain ⟨o, _, rfl⟩ := List.mem_map.1 this
      cases hc

theorem nodup_length {l k : List Int} (hn : l.Nodup) (hs : ∀ x, x ∈ l → x ∈ k) : l.length ≤ k.length := by
  induction l generalizing k with
  | nil => exact Nat.zero_le _
  | cons x l ih =>
    obtain ⟨h1, h2⟩ := List.nodup_cons.1 hn
    have hx : x ∈ k := hs x (by simp)
    have := ih (k := k.erase x) h2 (fun y hy => by
      have : y ≠ x := by rintro rfl; exact h1 hy
      exact (List.mem_erase_of_ne this).2 (hs y (by simp [hy])))
    rw [List.length_erase_of_mem hx] at this
    have hp : 0 < k.length := List.length_pos_of_mem hx
    simp
    omega
theorem Mk.Good.few {m : Mk} (h : m.Good) : m.queue.length ≤ m.nodes.length := by
  have := nodup_length (k := m.nodes.map Nd.id) h.nodup (fun id hid => by
    obtain ⟨i, x, hx, e, _⟩ := find_index ((h.gray id).1 hid)
    rw [← e]
    exact List.mem_map_of_mem (List.mem_of_getElem? hx))
  simpa using this
theorem reaches_length (l : List Int) (m : Mk) : (l.foldl Mk.reach m).nodes.length = m.nodes.length := (Mk.same_reaches l m).length

set_option maxHeartbeats 1000000 in
theorem new_bad (oA rA : Option Addr) (on oc rn rc : Nat) (os : List Ob) (w : World) (h : Objs w oA on os) (hn : on ≤ 1000) (hck : chk 0 os = false) :
    Calls Try.prog 10 #[.agg #[.slice oA on oc, .slice rA rn rc]] w fun e w' => e = .returned (.tuple #[.pointer none, .int .i64 2]) ∧ Kept (fun _ => False) w w' := by
  have hc := check_any oA rA on oc rn rc os (w.alloc (.cells #[.slice oA on oc, .slice rA rn rc] 25)) (h.later ((Kept.refl _ w).alloc _)) hn
  rw [chkE, hck] at hc
  have HC := Lib.hid hc
  clear hc h
  go_enter Try.func10, Try.ntmps10
  go_wp2_with fail
  refine HC.out.mono ?_
  rintro e w1 ⟨rfl, k1⟩
  simp only [Bool.false_eq_true, if_false]
  have K1 := Lib.hid k1
  clear k1 HC
  go_wp2
  go_ret2
  exact ⟨rfl, ((Kept.refl _ w).alloc _).trans K1.out (fun _ _ h => h)⟩

/-- What the first loop of New leaves after k objects. -/
def Laying (w : World) (g mb : Nat) (os : List Ob) (k : Nat) (rA : Option Addr) (rn rc : Nat) (wr : World) : Prop :=
  ∃ ow nbs, nbs.length = k ∧ (mk0 (os.take k)).nodes.length = k ∧ ow g = some 0 ∧ ow mb = some 1 ∧ Blk wr g 55 #[.map (some mb), .slice none 0 0] ∧ MapM wr mb (((mk0 (os.take k)).nodes.map Nd.id).zip nbs) ∧
    (∀ i x nb, (mk0 (os.take k)).nodes[i]? = some x → nbs[i]? = some nb → NodeAt wr ow i nb x) ∧ (∀ j t, ow j = some t → j < wr.heap.size ∧ w.heap.size < j) ∧ Kept (fun _ => False) w wr ∧ wr.cell? ⟨w.heap.size, 1, none⟩ = some (.slice rA rn rc) ∧ w.heap.size < wr.heap.size

set_option maxHeartbeats 4000000 in
theorem new_ok (oA rA : Option Addr) (on oc rn rc : Nat) (os : List Ob) (rs : List Int) (w : World) (h : Objs w oA on os) (hob : ∀ o, o ∈ os → ObOk w o) (hrs : Src w rA rn rs) (hri : ∀ r, r ∈ rs → I64 r) (hn : on ≤ 100) (hrn : rn ≤ 1000) (hck : chk 0 os = true) :
    Calls Try.prog 10 #[.agg #[.slice oA on oc, .slice rA rn rc]] w fun e w' => ∃ g ow, e = .returned (.tuple #[.pointer (some ⟨g, 0, none⟩), .int .i64 0]) ∧ MMem w' ow g (mkNew os rs) ∧ (∀ k, Own ow k → w.heap.size ≤ k) ∧ Kept (fun _ => False) w w' := by
  have hc := check_any oA rA on oc rn rc os (w.alloc (.cells #[.slice oA on oc, .slice rA rn rc] 25)) (h.later ((Kept.refl _ w).alloc _)) (by omega)
  rw [chkE, hck] at hc
  have HC := Lib.hid hc
  have H := Lib.hid h
  have HO := Lib.hid hob
  have HR := Lib.hid hrs
  have HRI := Lib.hid hri
  have HCK := Lib.hid hck
  clear hc h hob hrs hri hck
  go_enter Try.func10, Try.ntmps10
  go_wp2_with fail
  refine HC.out.mono ?_
  rintro e w1 ⟨rfl, k1⟩
  simp only [if_true]
  have hbx : Blk w1 w.heap.size 25 #[.slice oA on oc, .slice rA rn rc] := (Blk.new w 25 _).kept k1 (by simp)
  have bx0 := hbx.cell 0
  have bx1 := hbx.cell 1
  have hbl := hbx.lt
  have K1 : Hid (Kept (fun _ => False) w w1) := ((Kept.refl _ w).alloc _).trans k1 (fun _ _ h => h)
  clear k1 HC hbx
  have hmk : (Instr.makeMap 53 none).run Try.prog w1 = .ok (.map (some w1.heap.size)) (w1.alloc (.map #[] 0)) := by simp [Instr.makeMap]
  go_wp2
  clear hmk
  go_loopw [21] (fun i wr => ∃ k : Nat, k ≤ on ∧ i = .int .i64 (k : Int) ∧ Laying w (w1.heap.size + 1) w1.heap.size os k rA rn rc wr) (fun i _ => on - (intOf i).toNat)
  case atStart =>
    have hk0 : Kept (fun _ => False) w ((w1.alloc (.map #[] 0)).alloc (.cells #[.map (some w1.heap.size), .slice none 0 0] 55)) := (K1.out.alloc _).alloc _
    refine ⟨0, Nat.zero_le _, rfl, fun k => if k = w1.heap.size + 1 then some 0 else if k = w1.heap.size then some 1 else none, [], rfl, rfl, by simp, by simp, ?_, ?_, by simp, ?_, hk0, ?_, ?_⟩
    · have := Blk.new (w1.alloc (.map #[] 0)) 55 #[.map (some w1.heap.size), .slice none 0 0]
      rw [World.size_alloc] at this
      exact this
    · exact (MapM.made w1).kept ((Kept.refl (fun _ => False) _).alloc _) (by simp)
    · intro j t hj
      simp only [World.size_alloc]
      simp only at hj
      split at hj
      · omega
      · split at hj
        · omega
        · cases hj
    · exact ((((Kept.refl (fun _ => False) w1).alloc _).alloc _).cell (p := ⟨w.heap.size, 1, none⟩) hbl (by simp)).trans bx1
    · simp only [World.size_alloc]; omega
  case round =>
    obtain ⟨k, hk, rfl, hlay⟩ := hrel
    by_cases hlt : k < on
    · obtain ⟨ow, nbs, hnl, hml, o0, o1, hb, hm, hn2, hlt2, kk, cr1, hsz⟩ := hlay
      obtain ⟨b, off, hA, hbl2, hcells⟩ := H.out.at_ (by omega)
      have hlen := H.out.len
      obtain ⟨d0, d1, d2, d3, d4⟩ := hcells k _ (List.getElem?_eq_getElem (by omega))
      have e0 := (kk.cell (p := ⟨b, off + k * 5, none⟩) hbl2 (by simp)).trans d0
      have e1 := (kk.cell (p := ⟨b, off + k * 5 + 1, none⟩) hbl2 (by simp)).trans d1
      have e2 := (kk.cell (p := ⟨b, off + k * 5 + 2, none⟩) hbl2 (by simp)).trans d2
      have e3 := (kk.cell (p := ⟨b, off + k * 5 + 3, none⟩) hbl2 (by simp)).trans d3
      have e4 := (kk.cell (p := ⟨b, off + k * 5 + 4, none⟩) hbl2 (by simp)).trans d4
      have HOK := Lib.hid ((HO.out _ (List.getElem_mem (by omega : k < os.length))).later kk)
      have HTK : Hid (os.take (k + 1) = os.take k ++ [os[k]'(by omega)]) := List.take_succ_eq_append_getElem (by omega)
      generalize os[k]'(by omega) = o at *
      obtain ⟨oid, osz, owk, orA, orc, orefs, oeA, oec, oents⟩ := o
      simp only at e0 e1 e2 e3 e4
      subst hA
      have b0 : (0 : Int) ≤ (k : Int) := by omega
      have b1 : (k : Int) < (on : Int) := by omega
      have hbw : b < wr.heap.size := Nat.lt_of_lt_of_le hbl2 kk.size
      have KK := Lib.hid kk
      have HM := Lib.hid hm
      have HN := Lib.hid hn2
      have HLT := Lib.hid hlt2
      have HB := Lib.hid hb
      have O0 := Lib.hid o0
      have O1 := Lib.hid o1
      have HNL := Lib.hid hnl
      have HML := Lib.hid hml
      have hgl : w1.heap.size + 1 < wr.heap.size := hb.lt
      clear kk hcells d0 d1 d2 d3 d4 hlen hm hn2 hlt2 hb o0 o1 hnl hml
      go_upto_region 8 with (fail)
      obtain ⟨V, hV⟩ : ∃ V, V = wr.alloc (.cells #[.int .i64 oid, .int .i64 osz, .int .i64 owk, .slice orA orefs.length orc, .slice oeA oents.length oec] 39) := ⟨_, rfl⟩
      obtain ⟨bx, hbx⟩ : ∃ bx, bx = wr.heap.size := ⟨_, rfl⟩
      have kV : Kept (fun _ => False) wr V := by rw [hV]; exact (Kept.refl _ wr).alloc _
      have hBV : Blk V bx 39 #[.int .i64 oid, .int .i64 osz, .int .i64 owk, .slice orA orefs.length orc, .slice oeA oents.length oec] := by rw [hV, hbx]; exact Blk.new wr 39 _
      rw [← hV, ← hbx]
      have hBl := hBV.lt
      have cc : V.cell? ⟨w1.heap.size + 1, 0, none⟩ = some (.map (some w1.heap.size)) ∧ V.cell? ⟨bx, 0, none⟩ = some (.int .i64 oid) ∧ V.cell? ⟨bx, 1, none⟩ = some (.int .i64 osz) ∧ V.cell? ⟨bx, 2, none⟩ = some (.int .i64 owk) ∧ V.cell? ⟨bx, 3, none⟩ = some (.slice orA orefs.length orc) ∧ V.cell? ⟨bx, 4, none⟩ = some (.slice oeA oents.length oec) := ⟨(HB.out.kept kV (by simp)).cell 0, hBV.cell 0, hBV.cell 1, hBV.cell 2, hBV.cell 3, hBV.cell 4⟩
      obtain ⟨c0, c1, c2, c3, c4, c5⟩ := cc
      have hgV : w1.heap.size + 1 < V.heap.size := Nat.lt_of_lt_of_le hgl kV.size
      have HCL := Lib.hid (W.clone_any orA orefs.length orc orefs V.drew (HOK.out.rsrc.kept kV.drew (fun _ _ h => h)) HOK.out.rnil (by have := HOK.out.few.1; simp at this; omega))
      have KV := Lib.hid kV
      have HBX := Lib.hid hbx
      have HST : Hid (∀ w', Kept (fun _ => False) V w' → w'.cell? ⟨w1.heap.size + 1, 0, none⟩ = some (.map (some w1.heap.size)) ∧ w'.cell? ⟨bx, 0, none⟩ = some (.int .i64 oid) ∧ w'.cell? ⟨bx, 1, none⟩ = some (.int .i64 osz) ∧ w'.cell? ⟨bx, 2, none⟩ = some (.int .i64 owk) ∧ w'.cell? ⟨bx, 3, none⟩ = some (.slice orA orefs.length orc) ∧ w'.cell? ⟨bx, 4, none⟩ = some (.slice oeA oents.length oec)) := by
        show ∀ w', Kept (fun _ => False) V w' → w'.cell? ⟨w1.heap.size + 1, 0, none⟩ = some (.map (some w1.heap.size)) ∧ w'.cell? ⟨bx, 0, none⟩ = some (.int .i64 oid) ∧ w'.cell? ⟨bx, 1, none⟩ = some (.int .i64 osz) ∧ w'.cell? ⟨bx, 2, none⟩ = some (.int .i64 owk) ∧ w'.cell? ⟨bx, 3, none⟩ = some (.slice orA orefs.length orc) ∧ w'.cell? ⟨bx, 4, none⟩ = some (.slice oeA oents.length oec)
        intro w' k'
        exact ⟨(k'.cell (p := ⟨w1.heap.size + 1, 0, none⟩) hgV (by simp)).trans c0, (k'.cell (p := ⟨bx, 0, none⟩) hBl (by simp)).trans c1, (k'.cell (p := ⟨bx, 1, none⟩) hBl (by simp)).trans c2, (k'.cell (p := ⟨bx, 2, none⟩) hBl (by simp)).trans c3, (k'.cell (p := ⟨bx, 3, none⟩) hBl (by simp)).trans c4, (k'.cell (p := ⟨bx, 4, none⟩) hBl (by simp)).trans c5⟩
      clear hV hbx kV hBV e0 e1 e2 e3 e4
      have hne : w1.heap.size ≠ w1.heap.size + 1 := by omega
      have hne2 : w1.heap.size ≠ bx := by have := HBX.out; omega
      go_region_held3 (fun w' => w'.cell? ⟨w1.heap.size + 1, 0, none⟩ = some (.map (some w1.heap.size)) ∧ w'.cell? ⟨bx, 0, none⟩ = some (.int .i64 oid) ∧ w'.cell? ⟨bx, 1, none⟩ = some (.int .i64 osz) ∧ w'.cell? ⟨bx, 2, none⟩ = some (.int .i64 owk) ∧ w'.cell? ⟨bx, 3, none⟩ = some (.slice orA orefs.length orc) ∧ w'.cell? ⟨bx, 4, none⟩ = some (.slice oeA oents.length oec)) (first | exact hcc | exact hca | exact hc4 | go_keep)
        (first
          | (go_at_call 24; refine HCL.out.mono ?_; rintro e w2 ⟨A1, k1, rfl, r1, f1, k2⟩; have hcc : w2.cell? ⟨w1.heap.size + 1, 0, none⟩ = some (.map (some w1.heap.size)) ∧ w2.cell? ⟨bx, 0, none⟩ = some (.int .i64 oid) ∧ w2.cell? ⟨bx, 1, none⟩ = some (.int .i64 osz) ∧ w2.cell? ⟨bx, 2, none⟩ = some (.int .i64 owk) ∧ w2.cell? ⟨bx, 3, none⟩ = some (.slice orA orefs.length orc) ∧ w2.cell? ⟨bx, 4, none⟩ = some (.slice oeA oents.length oec) := HST.out w2 (((Kept.refl _ V).drew).trans k2 (fun _ _ h => h)))
          | (go_at_call 25; refine (W.entries_any _ _ _ _ oeA oents.length oec oents w2 ((HOK.out.esrc.later KV.out).later (((Kept.refl _ V).drew).trans k2 (fun _ _ h => h))) (by have := HOK.out.few.2; simp at this; omega)).mono ?_; rintro e w3 ⟨v, rfl, A2, m2, rfl, r2, f2, k3⟩; have hV3 : Kept (fun _ => False) V w3 := ((((Kept.refl _ V).drew).trans k2 (fun _ _ h => h)).trans k3 (fun _ _ h => h)); have hcc : w3.cell? ⟨w1.heap.size + 1, 0, none⟩ = some (.map (some w1.heap.size)) ∧ w3.cell? ⟨bx, 0, none⟩ = some (.int .i64 oid) ∧ w3.cell? ⟨bx, 1, none⟩ = some (.int .i64 osz) ∧ w3.cell? ⟨bx, 2, none⟩ = some (.int .i64 owk) ∧ w3.cell? ⟨bx, 3, none⟩ = some (.slice orA orefs.length orc) ∧ w3.cell? ⟨bx, 4, none⟩ = some (.slice oeA oents.length oec) := HST.out w3 hV3;
             have hca : (w3.alloc (.cells #[.slice A1 orefs.length k1, .slice A2 (W.flatKV oents).length m2, .int .i64 0] 59)).cell? ⟨w1.heap.size + 1, 0, none⟩ = some (.map (some w1.heap.size)) ∧ (w3.alloc (.cells #[.slice A1 orefs.length k1, .slice A2 (W.flatKV oents).length m2, .int .i64 0] 59)).cell? ⟨bx, 0, none⟩ = some (.int .i64 oid) ∧ (w3.alloc (.cells #[.slice A1 orefs.length k1, .slice A2 (W.flatKV oents).length m2, .int .i64 0] 59)).cell? ⟨bx, 1, none⟩ = some (.int .i64 osz) ∧ (w3.alloc (.cells #[.slice A1 orefs.length k1, .slice A2 (W.flatKV oents).length m2, .int .i64 0] 59)).cell? ⟨bx, 2, none⟩ = some (.int .i64 owk) ∧ (w3.alloc (.cells #[.slice A1 orefs.length k1, .slice A2 (W.flatKV oents).length m2, .int .i64 0] 59)).cell? ⟨bx, 3, none⟩ = some (.slice orA orefs.length orc) ∧ (w3.alloc (.cells #[.slice A1 orefs.length k1, .slice A2 (W.flatKV oents).length m2, .int .i64 0] 59)).cell? ⟨bx, 4, none⟩ = some (.slice oeA oents.length oec) := HST.out _ (hV3.alloc _);
             obtain ⟨w4, hrun, hm4, hg4⟩ := MapM.update (((HM.out.kept KV.out (by simp)).kept hV3 (by simp)).kept ((Kept.refl (fun _ => False) w3).alloc (.cells #[.slice A1 orefs.length k1, .slice A2 (W.flatKV oents).length m2, .int .i64 0] 59)) (by simp)) HOK.out.iid w3.heap.size (by rw [List.length_zip, List.length_map, HML.out, HNL.out]; unfold maxLen; omega);
             have hc4 : w4.cell? ⟨w1.heap.size + 1, 0, none⟩ = some (.map (some w1.heap.size)) ∧ w4.cell? ⟨bx, 0, none⟩ = some (.int .i64 oid) ∧ w4.cell? ⟨bx, 1, none⟩ = some (.int .i64 osz) ∧ w4.cell? ⟨bx, 2, none⟩ = some (.int .i64 owk) ∧ w4.cell? ⟨bx, 3, none⟩ = some (.slice orA orefs.length orc) ∧ w4.cell? ⟨bx, 4, none⟩ = some (.slice oeA oents.length oec) := (by
               have kg : Kept (fun k => k = w1.heap.size) V w4 := ((hV3.alloc _).mono (fun _ _ h => h.elim)).grown hg4 (fun k hk _ => by injection hk with hk; exact hk.symm)
               exact ⟨(kg.cell (p := ⟨w1.heap.size + 1, 0, none⟩) hgV (by simp)).trans c0, (kg.cell (p := ⟨bx, 0, none⟩) hBl hne2.symm).trans c1, (kg.cell (p := ⟨bx, 1, none⟩) hBl hne2.symm).trans c2, (kg.cell (p := ⟨bx, 2, none⟩) hBl hne2.symm).trans c3, (kg.cell (p := ⟨bx, 3, none⟩) hBl hne2.symm).trans c4, (kg.cell (p := ⟨bx, 4, none⟩) hBl hne2.symm).trans c5⟩)))
      have HNEW : Hid (Laying w (w1.heap.size + 1) w1.heap.size os (k + 1) rA rn rc w4) := by
        have hsz2 := k2.size
        have hsz3 := k3.size
        have hszV : V.drew.heap.size = V.heap.size := rfl
        have hszW := KV.out.size
        have hb1 : ∀ r, rowBlk A1 = some r → r < w2.heap.size := fun r hr => r1.blk_lt hr
        have hb2 : ∀ r, rowBlk A2 = some r → r < w3.heap.size := fun r hr => r2.blk_lt hr
        have kg : Kept (fun k => k = w1.heap.size) w3 w4 := ((Kept.refl _ w3).alloc _).grown hg4 (fun k hk _ => by injection hk with hk; exact hk.symm)
        have kA : Kept (fun k => k = w1.heap.size) (w3.alloc (.cells #[.slice A1 orefs.length k1, .slice A2 (W.flatKV oents).length m2, .int .i64 0] 59)) w4 := (Kept.refl _ _).grown hg4 (fun k hk _ => by injection hk with hk; exact hk.symm)
        have kall : Kept (fun k => k = w1.heap.size) wr w4 := (KV.out.mono (fun _ _ h => h.elim)).trans (((hV3.alloc _).mono (G := fun k => k = w1.heap.size) (fun _ _ h => h.elim)).grown hg4 (fun k hk _ => by injection hk with hk; exact hk.symm)) (fun _ _ h => h)
        have hmlt := HLT.out _ _ O1.out
        obtain ⟨ow', q0, q1, q2, q3, q4, q5, q6⟩ := mm_push (w := wr) (w3 := w4) (m := mk0 (os.take k)) (nbs := nbs) (by rw [HNL.out, HML.out]) O0.out O1.out HB.out HN.out (fun k t h => (HLT.out k t h).1) (ndOf ⟨oid, osz, owk, orA, orc, orefs, oeA, oec, oents⟩) w3.heap.size k1 m2 A1 A2
          ((Blk.new w3 59 _).kept kA (by omega)) ((r1.kept k3 (fun _ _ h => h)).kept kg (fun r hr e => by have := f1 r hr; omega)) (r2.kept kg (fun r hr e => by have := f2 r hr; omega)) hm4 kall (by omega) (fun r hr => by have := f1 r hr; omega) (fun r hr => by have := f2 r hr; omega)
          (fun e => by have := hb1 _ e; omega) (fun e => by have := hb2 _ e; omega) (fun r h1 h2 => by have := hb1 r h1; have := f2 r h2; omega)
        have hnodes : (mk0 (os.take (k + 1))).nodes = (mk0 (os.take k)).nodes ++ [ndOf ⟨oid, osz, owk, orA, orc, orefs, oeA, oec, oents⟩] := by
          rw [HTK.out]
          simp [mk0]
        refine ⟨ow', nbs ++ [w3.heap.size], by simp [HNL.out], by rw [hnodes]; simp [HML.out], q0, q1, q2, by rw [hnodes]; exact q3, by rw [hnodes]; exact q4, fun j t hj => ⟨q5 j t hj, ?_⟩, KK.out.trans kall (fun i hi e => by omega), ?_, Nat.lt_of_lt_of_le hsz kall.size⟩
        · rcases q6 j ⟨t, hj⟩ with ⟨t', h⟩ | h
          · exact (HLT.out _ _ h).2
          · omega
        · exact (kall.cell (p := ⟨w.heap.size, 1, none⟩) hsz (by simp; omega)).trans cr1
      clear hrun hm4 hg4 hcc hca hc4 hV3 r1 r2 f1 f2 k2 k3 HCL HST KV HBX c0 c1 c2 c3 c4 c5 HB HN HM HLT O0 O1
      go_wp2
      go_roundw
      case rel => exact ⟨k + 1, by omega, by go_num, HNEW.out⟩
      case measure => simp [intOf]; omega
    · obtain rfl : k = on := by omega
      have hlen := H.out.len
      obtain ⟨ow, nbs, hnl, hml, o0, o1, hb, hm, hn2, hlt2, kk, cr1, hsz⟩ := hlay
      have htk : os.take k = os := List.take_of_length_le (by omega)
      rw [htk] at hml hm hn2
      have hMM : MMem wr ow (w1.heap.size + 1) (mk0 os) := ⟨nbs, w1.heap.size, none, 0, by rw [hnl, hml], o0, o1, by simp [rowBlk], hb, Row.nil _, hm, hn2, fun k t h => (hlt2 k t h).1⟩
      have HMM : Hid (∃ ow, MMem wr ow (w1.heap.size + 1) (mk0 os) ∧ (∀ k, Own ow k → w.heap.size ≤ k) ∧ Kept (fun _ => False) w wr) := ⟨ow, hMM, fun k ⟨t, h⟩ => Nat.le_of_lt (hlt2 k t h).2, kk⟩
      clear hMM hnl hml o0 o1 hb hm hn2 hlt2 kk htk hlt
      go_wp2
      go_loopw [42] (fun i wr => ∃ k : Nat, k ≤ rn ∧ i = .int .i64 (k : Int) ∧ ∃ ow, MMem wr ow (w1.heap.size + 1) (mkNew os (rs.take k)) ∧ (∀ k, Own ow k → w.heap.size ≤ k) ∧ Kept (fun _ => False) w wr) (fun i _ => rn - (intOf i).toNat)
      case atStart => exact ⟨0, Nat.zero_le _, rfl, HMM.out⟩
      case round =>
        obtain ⟨j, hj, rfl, ow, hMM, hown, kk⟩ := hrel
        by_cases hjr : j < rn
        · obtain ⟨rb, roff, x, hA, hrb, hx, hcell⟩ := HR.out.at_ hjr
          have e0 := (kk.cell (p := ⟨rb, roff + j, none⟩) hrb (by simp)).trans hcell
          subst hA
          have hG : (mkNew os (rs.take j)).Good := (mk0_good HCK.out).reaches _
          have hfew : (mkNew os (rs.take j)).queue.length ≤ 1000 := by
            have h1 := hG.few
            have h2 : (mkNew os (rs.take j)).nodes.length = (mk0 os).nodes.length := reaches_length _ _
            have h3 : (mk0 os).nodes.length = os.length := by simp [mk0]
            omega
          have hc := m_reach hG hMM (HRI.out x (List.mem_of_getElem? hx)) hfew
          have hstep : (mkNew os (rs.take j)).reach x = mkNew os (rs.take (j + 1)) := by
            obtain ⟨hjl, he⟩ := List.getElem?_eq_some_iff.1 hx
            rw [List.take_succ_eq_append_getElem hjl, he]
            unfold mkNew
            rw [List.foldl_append]
            rfl
          rw [hstep] at hc
          have HC := Lib.hid hc
          have HOWN := Lib.hid hown
          have KK := Lib.hid kk
          have b0 : (0 : Int) ≤ (j : Int) := by omega
          have b1 : (j : Int) < (rn : Int) := by omega
          have hrw : rb < wr.heap.size := Nat.lt_of_lt_of_le hrb kk.size
          clear hc hMM hown kk hG hfew hstep hcell hx
          go_wp2_with fail
          refine HC.out.mono ?_
          rintro e w2 ⟨rfl, ow', hM2, k2, s2⟩
          have HN : Hid (∃ ow, MMem w2 ow (w1.heap.size + 1) (mkNew os (rs.take (j + 1))) ∧ (∀ k, Own ow k → w.heap.size ≤ k) ∧ Kept (fun _ => False) w w2) := by
            refine ⟨ow', hM2, fun k hk => ?_, KK.out.trans k2 (fun i hi hf => ?_)⟩
            · rcases s2 k hk with h | h
              · exact HOWN.out k h
              · exact Nat.le_trans KK.out.size h
            · have := HOWN.out i hf; omega
          clear hM2 k2 s2 HC KK HOWN e0
          go_wp2
          go_roundw
          case rel => exact ⟨j + 1, by omega, by go_num, HN.out⟩
          case measure => simp [intOf]; omega
        · obtain rfl : j = rn := by omega
          rw [List.take_of_length_le (by rw [HR.out.1]; exact Nat.le_refl _)] at hMM
          have HM := Lib.hid hMM
          have HOWN := Lib.hid hown
          have KK := Lib.hid kk
          clear hMM hown kk hjr
          go_wp2
          go_ret2
          exact ⟨w1.heap.size + 1, ow, rfl, HM.out, HOWN.out, KK.out⟩
end Go.Proofs.Ytalhldfcdfdoeaa
