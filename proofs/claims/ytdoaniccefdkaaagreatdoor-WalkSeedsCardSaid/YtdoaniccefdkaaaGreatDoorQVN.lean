/- WalkFinds, plainly: what Find tells is a place that the point has. -/
import Derived.Test.YtdoaniccefdkaaaGreatDoorZX
import Derived.Test.YtdoaniccefdkaaaGreatDoorQVO
import Derived.Test.YtdoaniccefdkaaaGreatDoorZU
import Derived.Test.YtdoaniccefdkaaaGreatDoorZV
set_option linter.all false
namespace Go.Proofs.YtdoaniccefdkaaaGreatDoor
open Go.RowKit Tvf Go.Maps Go.WideMaps

/-! ### the document's places -/
def corB (G : List Tri3) (i : Int) : Bool := G.any fun t => decide (t.1 = i) || (decide (t.2.1 = i) || decide (t.2.2 = i))
def plP (l : List Pt) (G : List Tri3) (p : Pt) (n : Nat) : List Plc := ((List.range n).filter fun i : Nat => corB G i && aliB (l.getD i (0, 0)) p).map fun i : Nat => ⟨3, i, 0, 0⟩
def plE (l : List Pt) (p : Pt) (t : Tri3) (k : Nat) : List Plc := if btwB (ptP l (tvT t k)) (ptP l (tvT t ((k + 1) % 3))) p = true then [⟨2, minI (tvT t k) (tvT t ((k + 1) % 3)), maxI (tvT t k) (tvT t ((k + 1) % 3)), 0⟩] else []
def plI (l : List Pt) (p : Pt) (t : Tri3) : List Plc := if insB (ptP l t.1) (ptP l t.2.1) (ptP l t.2.2) p = true then [⟨1, (own3 t).1, (own3 t).2.1, (own3 t).2.2⟩] else []
def plT (l : List Pt) (p : Pt) (t : Tri3) : List Plc := (List.range 3).flatMap (plE l p t) ++ plI l p t
def plL (l : List Pt) (G : List Tri3) (p : Pt) : List Plc := plP l G p l.length ++ G.flatMap (plT l p)

/-! ### geometry -/
theorem det_bary (a b c p : Pt) : det a b c * (fval p.1 - fval a.1) = det c a p * (fval b.1 - fval a.1) + det a b p * (fval c.1 - fval a.1) ∧ det a b c * (fval p.2 - fval a.2) = det c a p * (fval b.2 - fval a.2) + det a b p * (fval c.2 - fval a.2) ∧ det a b c = det a b p + det b c p + det c a p := by
  unfold det
  generalize fval a.1 = ax
  generalize fval a.2 = ay
  generalize fval b.1 = bx
  generalize fval b.2 = bY
  generalize fval c.1 = cx
  generalize fval c.2 = cy
  generalize fval p.1 = px
  generalize fval p.2 = py
  refine ⟨?_, ?_, ?_⟩ <;> grind
theorem pos_of_mul {d x : Int} (hd : 0 < d) (h : 0 ≤ d * x) : 0 ≤ x := by
  apply Classical.byContradiction
  intro hx
  have := Int.mul_neg_of_pos_of_neg hd (Int.not_le.1 hx)
  omega
/-- where it lies on the line of an edge and left of the two others, it lies within the edge's box -/
theorem seg_in {d s1 s2 x y z : Int} (hd : 0 < d) (h1 : 0 ≤ s1) (h2 : 0 ≤ s2) (hs : d = s1 + s2) (h : d * (z - x) = s2 * (y - x)) : (x ≤ z ∧ z ≤ y) ∨ (y ≤ z ∧ z ≤ x) := by
  have h3 : d * (y - z) = s1 * (y - x) := by
    have e : d * (y - z) = d * (y - x) - d * (z - x) := by rw [← Int.mul_sub]; congr 1; omega
    rw [e, h, hs, Int.add_mul]; omega
  by_cases q : x ≤ y
  · have a1 := Int.mul_nonneg h2 (show 0 ≤ y - x by omega)
    have a2 := Int.mul_nonneg h1 (show 0 ≤ y - x by omega)
    rw [← h] at a1
    rw [← h3] at a2
    have b1 := pos_of_mul hd a1
    have b2 := pos_of_mul hd a2
    omega
  · have a1 := Int.mul_nonneg h2 (show 0 ≤ x - y by omega)
    have a2 := Int.mul_nonneg h1 (show 0 ≤ x - y by omega)
    have e1 : d * (x - z) = s2 * (x - y) := by
      have : d * (x - z) = -(d * (z - x)) := by rw [← Int.mul_neg]; congr 1; omega
      rw [this, h, ← Int.mul_neg]; congr 1; omega
    have e2 : d * (z - y) = s1 * (x - y) := by
      have : d * (z - y) = -(d * (y - z)) := by rw [← Int.mul_neg]; congr 1; omega
      rw [this, h3, ← Int.mul_neg]; congr 1; omega
    rw [← e1] at a1
    rw [← e2] at a2
    have b1 := pos_of_mul hd a1
    have b2 := pos_of_mul hd a2
    omega
/-- and the other way about, along one axis -/
theorem seg_out {d s1 s2 x y z : Int} (hd : 0 < d) (hs : d = s1 + s2) (h : d * (z - x) = s2 * (y - x)) (hb : (x ≤ z ∧ z ≤ y) ∨ (y ≤ z ∧ z ≤ x)) (hne : x ≠ y) : 0 ≤ s1 ∧ 0 ≤ s2 := by
  have h3 : d * (y - z) = s1 * (y - x) := by
    have e : d * (y - z) = d * (y - x) - d * (z - x) := by rw [← Int.mul_sub]; congr 1; omega
    rw [e, h, hs, Int.add_mul]; omega
  by_cases q : x < y
  · have a1 := Int.mul_nonneg (Int.le_of_lt hd) (show 0 ≤ z - x by omega)
    have a2 := Int.mul_nonneg (Int.le_of_lt hd) (show 0 ≤ y - z by omega)
    rw [h, Int.mul_comm] at a1
    rw [h3, Int.mul_comm] at a2
    exact ⟨pos_of_mul (by omega) a2, pos_of_mul (by omega) a1⟩
  · have a1 := Int.mul_nonneg (Int.le_of_lt hd) (show 0 ≤ x - z by omega)
    have a2 := Int.mul_nonneg (Int.le_of_lt hd) (show 0 ≤ z - y by omega)
    have e1 : d * (x - z) = (x - y) * s2 := by
      have : d * (x - z) = -(d * (z - x)) := by rw [← Int.mul_neg]; congr 1; omega
      rw [this, h, ← Int.mul_neg, Int.mul_comm]; congr 1; omega
    have e2 : d * (z - y) = (x - y) * s1 := by
      have : d * (z - y) = -(d * (y - z)) := by rw [← Int.mul_neg]; congr 1; omega
      rw [this, h3, ← Int.mul_neg, Int.mul_comm]; congr 1; omega
    rw [e1] at a1
    rw [e2] at a2
    exact ⟨pos_of_mul (by omega) a2, pos_of_mul (by omega) a1⟩

theorem sgnI_cases (z : Int) : (sgnI z = -1 ↔ z < 0) ∧ (sgnI z = 0 ↔ z = 0) ∧ (0 < sgnI z ↔ 0 < z) := by
  unfold sgnI
  split
  · omega
  · split <;> omega
theorem signI_ok {a b c : Pt} (ha : ptOK a = true) (hb : ptOK b = true) (hc : ptOK c = true) : signI a b c = sgnI (det a b c) := by
  unfold signI; simp [ha, hb, hc]
theorem ok_fin {p : Pt} (h64 : pt64 p) (h : ptOK p = true) : fin p.1 ∧ fin p.2 := by
  unfold ptOK at h
  rw [Bool.and_eq_true] at h
  exact ⟨coordB_fin h64.1 h.1, coordB_fin h64.2 h.2⟩
theorem ali_iff {p q : Pt} (hp : PtO p) (hq : PtO q) : aliB p q = true ↔ fval p.1 = fval q.1 ∧ fval p.2 = fval q.2 := by
  have f1 := ok_fin hp.1 hp.2
  have f2 := ok_fin hq.1 hq.2
  unfold aliB
  rw [feq_val f1.1 f2.1, feq_val f1.2 f2.2]
  simp
theorem cmp_ali {p q : Pt} (hp : PtO p) (hq : PtO q) : cmpI p q = 0 ↔ aliB p q = true := by
  rw [ali_iff hp hq]
  unfold cmpI holdI
  rw [hp.2, hq.2]
  simp only [Bool.and_self, if_true]
  have h1 := (sgnI_cases (fval p.1 - fval q.1)).2.1
  have h2 := (sgnI_cases (fval p.2 - fval q.2)).2.1
  split
  · rename_i h; rw [h2]; have := h1.1 h; omega
  · rename_i h
    constructor
    · intro e; exact absurd e h
    · intro e; exact absurd (h1.2 (by omega)) h
theorem bt_iff {x y z : Nat} (hx : fin x) (hy : fin y) (hz : fin z) : btB x y z = true ↔ (fval x ≤ fval z ∧ fval z ≤ fval y) ∨ (fval y ≤ fval z ∧ fval z ≤ fval x) := by
  unfold btB
  rw [fle_val hx hz, fle_val hz hy, fle_val hy hz, fle_val hz hx]
  simp

/-- three corners that turn left, and a point, all of which may be -/
structure Tri4 (a b c p : Pt) : Prop where
  ha : PtO a
  hb : PtO b
  hc : PtO c
  hp : PtO p
  hd : 0 < signI a b c
theorem Tri4.rot {a b c p : Pt} (h : Tri4 a b c p) : Tri4 b c a p := by
  refine ⟨h.hb, h.hc, h.ha, h.hp, ?_⟩
  have := h.hd
  rw [signI_ok h.ha.2 h.hb.2 h.hc.2] at this
  rw [signI_ok h.hb.2 h.hc.2 h.ha.2, ← det_rot]; exact this
def noneOut (a b c p : Pt) : Prop := signI a b p ≠ -1 ∧ signI b c p ≠ -1 ∧ signI c a p ≠ -1
theorem noneOut.rot {a b c p : Pt} (h : noneOut a b c p) : noneOut b c a p := ⟨h.2.1, h.2.2, h.1⟩
theorem Tri4.nums {a b c p : Pt} (h : Tri4 a b c p) : 0 < det a b c ∧ signI a b p = sgnI (det a b p) ∧ signI b c p = sgnI (det b c p) ∧ signI c a p = sgnI (det c a p) := by
  have := h.hd
  rw [signI_ok h.ha.2 h.hb.2 h.hc.2, (sgnI_cases _).2.2] at this
  exact ⟨this, signI_ok h.ha.2 h.hb.2 h.hp.2, signI_ok h.hb.2 h.hc.2 h.hp.2, signI_ok h.hc.2 h.ha.2 h.hp.2⟩
theorem Tri4.out_iff {a b c p : Pt} (h : Tri4 a b c p) : noneOut a b c p ↔ 0 ≤ det a b p ∧ 0 ≤ det b c p ∧ 0 ≤ det c a p := by
  obtain ⟨_, e1, e2, e3⟩ := h.nums
  unfold noneOut
  rw [e1, e2, e3]
  have := (sgnI_cases (det a b p)).1
  have := (sgnI_cases (det b c p)).1
  have := (sgnI_cases (det c a p)).1
  omega
/-- on an edge's line and not outside: on the edge -/
theorem Tri4.on_edge {a b c p : Pt} (h : Tri4 a b c p) (ho : noneOut a b c p) (h0 : signI a b p = 0) : onB a b p = true := by
  obtain ⟨hd, e1, e2, e3⟩ := h.nums
  obtain ⟨o1, o2, o3⟩ := h.out_iff.1 ho
  obtain ⟨b1, b2, b3⟩ := det_bary a b c p
  have z : det a b p = 0 := by rw [e1] at h0; exact (sgnI_cases _).2.1.1 h0
  rw [z, Int.zero_mul, Int.add_zero] at b1 b2
  rw [z, Int.zero_add] at b3
  have fa := ok_fin h.ha.1 h.ha.2
  have fb := ok_fin h.hb.1 h.hb.2
  have fp := ok_fin h.hp.1 h.hp.2
  unfold onB
  rw [h.ha.2, h.hb.2, h.hp.2, (bt_iff fa.1 fb.1 fp.1).2 (seg_in hd o2 o3 b3 b1), (bt_iff fa.2 fb.2 fp.2).2 (seg_in hd o2 o3 b3 b2)]
  simp [h0]
theorem Tri4.of_on {a b c p : Pt} (h : Tri4 a b c p) (ho : onB a b p = true) : noneOut a b c p := by
  obtain ⟨hd, e1, e2, e3⟩ := h.nums
  obtain ⟨b1, b2, b3⟩ := det_bary a b c p
  have fa := ok_fin h.ha.1 h.ha.2
  have fb := ok_fin h.hb.1 h.hb.2
  have fp := ok_fin h.hp.1 h.hp.2
  unfold onB at ho
  simp only [Bool.and_eq_true, decide_eq_true_eq] at ho
  obtain ⟨_, _, _, h0, t1, t2⟩ := ho
  rw [bt_iff fa.1 fb.1 fp.1] at t1
  rw [bt_iff fa.2 fb.2 fp.2] at t2
  have z : det a b p = 0 := by rw [e1] at h0; exact (sgnI_cases _).2.1.1 h0
  rw [z, Int.zero_mul, Int.add_zero] at b1 b2
  rw [z, Int.zero_add] at b3
  rw [h.out_iff, z]
  by_cases q : fval a.1 = fval b.1
  · by_cases q2 : fval a.2 = fval b.2
    · exfalso
      have : det a b c = 0 := by unfold det; rw [q, q2, Int.sub_self, Int.sub_self, Int.zero_mul, Int.zero_mul]; rfl
      omega
    · exact ⟨Int.le_refl _, seg_out hd b3 b2 t2 q2⟩
  · exact ⟨Int.le_refl _, seg_out hd b3 b1 t1 q⟩
theorem Tri4.of_ali {a b c p : Pt} (h : Tri4 a b c p) (ho : aliB a p = true) : noneOut a b c p := by
  rw [ali_iff h.ha h.hp] at ho
  obtain ⟨hd, _⟩ := h.nums
  rw [h.out_iff]
  have e1 : det a b p = 0 := by unfold det; rw [ho.1, ho.2, Int.sub_self, Int.sub_self, Int.mul_zero, Int.mul_zero]; rfl
  have e2 : det c a p = 0 := by
    unfold det; rw [← ho.1, ← ho.2]
    generalize fval a.1 - fval c.1 = u
    generalize fval a.2 - fval c.2 = v
    rw [Int.mul_comm v u]; omega
  have e3 := (det_bary a b c p).2.2
  omega
theorem Tri4.of_ins {a b c p : Pt} (h : insB a b c p = true) : noneOut a b c p := by
  unfold insB at h
  simp only [Bool.and_eq_true, decide_eq_true_eq] at h
  unfold noneOut
  omega

/-! ### the law -/
/-- what the law stands on -/
structure Fnd (M : MeshM) (G : List Tri3) (l : List Pt) (p : Pt) : Prop where
  tw : Twin M G
  P : M.P = l
  ok : ∀ q, q ∈ l → PtO q
  p : PtO p
theorem Fnd.at_ {M : MeshM} {G : List Tri3} {l : List Pt} {p : Pt} (h : Fnd M G l p) {i : Int} (h0 : 0 ≤ i) (h1 : i < M.P.length) : ptAt M i = ptP l i ∧ PtO (ptP l i) := by
  obtain ⟨k, rfl⟩ := Int.eq_ofNat_of_zero_le h0
  have hk : k < M.P.length := by omega
  have e : ptP l (k : Int) = M.P.getD k (0, 0) := by unfold ptP; rw [h.P, Int.toNat_natCast]
  refine ⟨(ptAt_yes hk).trans e.symm, ?_⟩
  rw [e]
  refine h.ok _ ?_
  rw [← h.P, List.getD_eq_getElem?_getD, List.getElem?_eq_getElem hk]
  exact List.getElem_mem hk
theorem Fnd.tri {M : MeshM} {G : List Tri3} {l : List Pt} {p : Pt} (h : Fnd M G l p) {a b c : Int} (e : M.ap a b = some c) : Tri4 (ptP l a) (ptP l b) (ptP l c) p ∧ ptAt M a = ptP l a ∧ ptAt M b = ptP l b ∧ ptAt M c = ptP l c := by
  obtain ⟨ha, hb, hc⟩ := h.tw.s.within3 e
  have qa := h.at_ ha.1 ha.2
  have qb := h.at_ hb.1 hb.2
  have qc := h.at_ hc.1 hc.2
  refine ⟨⟨qa.2, qb.2, qc.2, h.p, ?_⟩, qa.1, qb.1, qc.1⟩
  have := h.tw.s.sgn _ _ _ e
  unfold signM at this
  unfold ptP
  rw [← h.P]
  exact this
theorem out_rot' {M : MeshM} {p : Pt} {t : Tri3} : outM M p t = none ↔ sdM M p t.1 t.2.1 ≠ -1 ∧ sdM M p t.2.1 t.2.2 ≠ -1 ∧ sdM M p t.2.2 t.1 ≠ -1 := by
  unfold outM
  constructor
  · intro h
    split at h
    · cases h
    · split at h
      · cases h
      · split at h
        · cases h
        · rename_i h1 h2 h3; exact ⟨h1, h2, h3⟩
  · rintro ⟨h1, h2, h3⟩
    rw [if_neg h1, if_neg h2, if_neg h3]
theorem Fnd.out {M : MeshM} {G : List Tri3} {l : List Pt} {p : Pt} (h : Fnd M G l p) {t : Tri3} (e : M.ap t.1 t.2.1 = some t.2.2) : outM M p t = none ↔ noneOut (ptP l t.1) (ptP l t.2.1) (ptP l t.2.2) p := by
  obtain ⟨_, q1, q2, q3⟩ := h.tri e
  rw [out_rot']
  unfold sdM noneOut
  rw [q1, q2, q3]

theorem own3_cases (t : Tri3) : own3 t = t ∨ own3 t = (t.2.1, t.2.2, t.1) ∨ own3 t = (t.2.2, t.1, t.2.1) := by
  unfold own3
  split
  · exact .inl rfl
  · split
    · exact .inr (.inl rfl)
    · exact .inr (.inr rfl)
theorem mem_plT {l : List Pt} {p : Pt} {t : Tri3} {x : Plc} : x ∈ plT l p t ↔ (∃ k, k < 3 ∧ x ∈ plE l p t k) ∨ x ∈ plI l p t := by
  unfold plT
  rw [List.mem_append, List.mem_flatMap]
  simp only [List.mem_range]
theorem minI_comm (a b : Int) : minI a b = minI b a := by unfold minI; split <;> split <;> omega
theorem maxI_comm (a b : Int) : maxI a b = maxI b a := by unfold maxI; split <;> split <;> omega

/-- a triangle of the mesh's, and the one of the document's -/
theorem Fnd.back {M : MeshM} {G : List Tri3} {l : List Pt} {p : Pt} (h : Fnd M G l p) {u : Tri3} (hu : u ∈ trisL M.ap M.P.length) : ∃ t, t ∈ G ∧ own3 t = u ∧ M.ap t.1 t.2.1 = some t.2.2 ∧ M.ap u.1 u.2.1 = some u.2.2 := by
  obtain ⟨t, ht, rfl⟩ := List.mem_map.1 ((h.tw.tris u).1 hu)
  refine ⟨t, ht, rfl, ?_, ((mem_trisL h.tw.s.win _).1 hu).1⟩
  rw [h.tw.ap, h.tw.mem]
  exact ⟨t, ht, .inl ⟨rfl, rfl, rfl⟩⟩
theorem Fnd.fwd {M : MeshM} {G : List Tri3} {l : List Pt} {p : Pt} (h : Fnd M G l p) {t : Tri3} (ht : t ∈ G) : M.ap t.1 t.2.1 = some t.2.2 ∧ own3 t ∈ trisL M.ap M.P.length := by
  refine ⟨?_, (h.tw.tris _).2 (List.mem_map_of_mem ht)⟩
  rw [h.tw.ap, h.tw.mem]
  exact ⟨t, ht, .inl ⟨rfl, rfl, rfl⟩⟩
theorem Fnd.own {M : MeshM} {G : List Tri3} {l : List Pt} {p : Pt} (h : Fnd M G l p) {t : Tri3} (ht : t ∈ G) (ho : noneOut (ptP l t.1) (ptP l t.2.1) (ptP l t.2.2) p) : outM M p (own3 t) = none := by
  have hm := (h.fwd ht).2
  have e := ((mem_trisL h.tw.s.win _).1 hm).1
  rw [h.out e]
  rcases own3_cases t with q | q | q <;> rw [q]
  · exact ho
  · exact ho.rot
  · exact ho.rot.rot

theorem edge_place {l : List Pt} {p : Pt} {t : Tri3} {a b : Int} (hin : ∃ k, k < 3 ∧ tvT t k = a ∧ tvT t ((k + 1) % 3) = b) (hb : btwB (ptP l a) (ptP l b) p = true) : (⟨2, minI a b, maxI a b, 0⟩ : Plc) ∈ plT l p t := by
  obtain ⟨k, hk, rfl, rfl⟩ := hin
  refine mem_plT.2 (.inl ⟨k, hk, ?_⟩)
  unfold plE
  rw [if_pos hb]
  simp

theorem corT_edge (t : Tri3) {i : Int} (h : i = 0 ∨ i = 1 ∨ i = 2) : ∃ c, inT t (corT t i) (corT t (i + 1)) c := by
  rcases h with rfl | rfl | rfl
  · exact ⟨t.2.2, .inl ⟨rfl, rfl, rfl⟩⟩
  · exact ⟨t.1, .inr (.inl ⟨rfl, rfl, rfl⟩)⟩
  · exact ⟨t.2.1, .inr (.inr ⟨rfl, rfl, rfl⟩)⟩
theorem edgeM_cases (M : MeshM) (p : Pt) (t : Tri3) : (edgeM M p t < 0 ∧ sdM M p t.1 t.2.1 ≠ 0 ∧ sdM M p t.2.1 t.2.2 ≠ 0 ∧ sdM M p t.2.2 t.1 ≠ 0) ∨ (¬edgeM M p t < 0 ∧ (edgeM M p t = 0 ∨ edgeM M p t = 1 ∨ edgeM M p t = 2) ∧ sdM M p (corT t (edgeM M p t)) (corT t (edgeM M p t + 1)) = 0) := by
  unfold edgeM
  split
  · rename_i h; exact .inr ⟨by omega, by omega, h⟩
  · split
    · rename_i h; exact .inr ⟨by omega, by omega, h⟩
    · split
      · rename_i h; exact .inr ⟨by omega, by omega, h⟩
      · rename_i h1 h2 h3; exact .inl ⟨by omega, h3, h2, h1⟩
theorem onM_cases (M : MeshM) (p : Pt) (t : Tri3) : (∃ a, onM M p t = some a ∧ (a = t.1 ∨ a = t.2.1 ∨ a = t.2.2) ∧ cmpI (ptAt M a) p = 0) ∨ (onM M p t = none ∧ ∀ a, (a = t.1 ∨ a = t.2.1 ∨ a = t.2.2) → cmpI (ptAt M a) p ≠ 0) := by
  unfold onM
  split
  · rename_i h; exact .inl ⟨_, rfl, .inl rfl, h⟩
  · split
    · rename_i h; exact .inl ⟨_, rfl, .inr (.inl rfl), h⟩
    · split
      · rename_i h; exact .inl ⟨_, rfl, .inr (.inr rfl), h⟩
      · rename_i h1 h2 h3
        refine .inr ⟨rfl, ?_⟩
        rintro a (rfl | rfl | rfl)
        · exact h1
        · exact h2
        · exact h3
theorem corT_mem (t : Tri3) (i : Int) : corT t i = t.1 ∨ corT t i = t.2.1 ∨ corT t i = t.2.2 := by
  unfold corT; split
  · exact .inr (.inl rfl)
  · split
    · exact .inr (.inr rfl)
    · exact .inl rfl
theorem sgn_pos3 {z : Int} (h1 : sgnI z ≠ -1) (h0 : sgnI z ≠ 0) : 0 < sgnI z := by
  unfold sgnI at *
  split at h1
  · omega
  · split at h1
    · rename_i a b; rw [if_neg a, if_pos b]; omega
    · rename_i a b; rw [if_neg a, if_neg b] at h0; omega

/-- a triangle in which it does not lie outside tells one of the point's places -/
theorem Fnd.place {M : MeshM} {G : List Tri3} {l : List Pt} {p : Pt} (h : Fnd M G l p) {u : Tri3} (hu : u ∈ trisL M.ap M.P.length) (ho : outM M p u = none) : placeM M p u ∈ plL l G p := by
  obtain ⟨t, ht, hown, et, eu⟩ := h.back hu
  obtain ⟨T4, q1, q2, q3⟩ := h.tri eu
  have hno := (h.out eu).1 ho
  obtain ⟨hd, s1, s2, s3⟩ := T4.nums
  have hinT : ∀ x y z, inT u x y z → ∃ k, k < 3 ∧ tvT t k = x ∧ tvT t ((k + 1) % 3) = y := fun x y z hi => (inT_at t x y).1 ⟨z, by rw [← hown, own3_in] at hi; exact hi⟩
  unfold plL
  rw [List.mem_append, List.mem_flatMap]
  unfold placeM
  rcases edgeM_cases M p u with ⟨he, n1, n2, n3⟩ | ⟨he, hr, hz⟩
  · rw [if_pos he]
    refine .inr ⟨t, ht, mem_plT.2 (.inr ?_)⟩
    unfold sdM at n1 n2 n3
    rw [q1, q2] at n1
    rw [q2, q3] at n2
    rw [q3, q1] at n3
    have p1 := sgn_pos3 (by rw [← s1]; exact hno.1) (by rw [← s1]; exact n1)
    have p2 := sgn_pos3 (by rw [← s2]; exact hno.2.1) (by rw [← s2]; exact n2)
    have p3 := sgn_pos3 (by rw [← s3]; exact hno.2.2) (by rw [← s3]; exact n3)
    rw [← s1] at p1
    rw [← s2] at p2
    rw [← s3] at p3
    unfold plI
    rw [hown]
    have hi : insB (ptP l t.1) (ptP l t.2.1) (ptP l t.2.2) p = true := by
      unfold insB
      simp only [Bool.and_eq_true, decide_eq_true_eq]
      rcases own3_cases t with q | q | q <;> rw [hown] at q <;> subst q
      · exact ⟨p1, p2, p3⟩
      · exact ⟨p3, p1, p2⟩
      · exact ⟨p2, p3, p1⟩
    rw [if_pos hi]; simp
  · rw [if_neg he]
    rcases onM_cases M p u with ⟨a, e1, hm, hc⟩ | ⟨e1, hc⟩
    · rw [e1]
      refine .inl ?_
      have hw := h.tw.s.within3 eu
      have ha : 0 ≤ a ∧ a < M.P.length := by
        rcases hm with rfl | rfl | rfl
        · exact hw.1
        · exact hw.2.1
        · exact hw.2.2
      have qa := h.at_ ha.1 ha.2
      obtain ⟨k, rfl⟩ := Int.eq_ofNat_of_zero_le ha.1
      refine List.mem_map.2 ⟨k, List.mem_filter.2 ⟨List.mem_range.2 (by have := ha.2; rw [h.P] at this; omega), ?_⟩, rfl⟩
      rw [Bool.and_eq_true]
      constructor
      · unfold corB
        rw [List.any_eq_true]
        refine ⟨t, ht, ?_⟩
        simp only [Bool.or_eq_true, decide_eq_true_eq]
        rcases own3_cases t with q | q | q <;> rw [hown] at q <;> subst q <;> (try dsimp only at hm) <;> rcases hm with e | e | e <;> simp [e]
      · rw [qa.1] at hc
        have := (cmp_ali qa.2 h.p).1 hc
        unfold ptP at this
        rwa [Int.toNat_natCast] at this
    · rw [e1]
      refine .inr ⟨t, ht, ?_⟩
      generalize edgeM M p u = e at *
      obtain ⟨c, hc3⟩ := corT_edge u hr
      refine edge_place (hinT _ _ _ hc3) ?_
      have ea : M.ap (corT u e) (corT u (e + 1)) = some c := by
        rcases hc3 with ⟨x, y, z⟩ | ⟨x, y, z⟩ | ⟨x, y, z⟩ <;> rw [x, y, z]
        · exact eu
        · exact h.tw.s.rot.rot _ _ _ eu
        · exact h.tw.s.rot.rot _ _ _ (h.tw.s.rot.rot _ _ _ eu)
      obtain ⟨T5, r1, r2, r3⟩ := h.tri ea
      have hno5 : noneOut (ptP l (corT u e)) (ptP l (corT u (e + 1))) (ptP l c) p := by
        rcases hc3 with ⟨x, y, z⟩ | ⟨x, y, z⟩ | ⟨x, y, z⟩ <;> rw [x, y, z]
        · exact hno
        · exact hno.rot
        · exact hno.rot.rot
      unfold sdM at hz
      rw [r1, r2] at hz
      have c1 := hc _ (corT_mem u e)
      have c2 := hc _ (corT_mem u (e + 1))
      rw [r1] at c1
      rw [r2] at c2
      unfold btwB
      rw [T5.on_edge hno5 hz]
      have d1 : aliB (ptP l (corT u e)) p = false := by
        cases q : aliB (ptP l (corT u e)) p
        · rfl
        · exact absurd ((cmp_ali T5.ha h.p).2 q) c1
      have d2 : aliB (ptP l (corT u (e + 1))) p = false := by
        cases q : aliB (ptP l (corT u (e + 1))) p
        · rfl
        · exact absurd ((cmp_ali T5.hb h.p).2 q) c2
      rw [d1, d2]; rfl

/-- where all triangles tell that it lies outside, it has no place -/
theorem Fnd.nowhere {M : MeshM} {G : List Tri3} {l : List Pt} {p : Pt} (h : Fnd M G l p) (ho : ∀ u, u ∈ trisL M.ap M.P.length → outM M p u ≠ none) : plL l G p = [] := by
  have key : ∀ t, t ∈ G → ¬noneOut (ptP l t.1) (ptP l t.2.1) (ptP l t.2.2) p := fun t ht hn => ho _ (h.fwd ht).2 (h.own ht hn)
  rw [List.eq_nil_iff_forall_not_mem]
  intro x hx
  unfold plL at hx
  rw [List.mem_append, List.mem_flatMap] at hx
  rcases hx with hx | ⟨t, ht, hx⟩
  · obtain ⟨k, hk, rfl⟩ := List.mem_map.1 hx
    have hk2 := (List.mem_filter.1 hk).2
    rw [Bool.and_eq_true] at hk2
    obtain ⟨hc, ha⟩ := hk2
    unfold corB at hc
    obtain ⟨t, ht, hc⟩ := List.any_eq_true.1 hc
    simp only [Bool.or_eq_true, decide_eq_true_eq] at hc
    obtain ⟨T4, _⟩ := h.tri (h.fwd ht).1
    have hpk : ptP l (k : Int) = l.getD k (0, 0) := by unfold ptP; rw [Int.toNat_natCast]
    rw [← hpk] at ha
    rcases hc with e | e | e <;> rw [← e] at ha
    · exact key t ht (T4.of_ali ha)
    · exact key t ht (T4.rot.of_ali ha).rot.rot
    · exact key t ht (T4.rot.rot.of_ali ha).rot
  · obtain ⟨T4, _⟩ := h.tri (h.fwd ht).1
    rcases mem_plT.1 hx with ⟨k, hk, hx⟩ | hx
    · unfold plE at hx
      split at hx
      · rename_i hb
        unfold btwB at hb
        rw [Bool.and_eq_true] at hb
        have h4 : k = 0 ∨ k = 1 ∨ k = 2 := by omega
        rcases h4 with rfl | rfl | rfl
        · exact key t ht (T4.of_on hb.1)
        · exact key t ht (T4.rot.of_on hb.1).rot.rot
        · exact key t ht (T4.rot.rot.of_on hb.1).rot
      · simp at hx
    · unfold plI at hx
      split at hx
      · rename_i hb; exact key t ht (Tri4.of_ins hb)
      · simp at hx

theorem ownT_tris {M : MeshM} (hs : Sound M) {a b c : Int} (e : M.ap a b = some c) : ownT a b c ∈ trisL M.ap M.P.length := by
  have r1 := hs.rot.rot _ _ _ e
  have r2 := hs.rot.rot _ _ _ r1
  obtain ⟨n1, n2, n3⟩ := hs.rot.ne _ _ _ e
  rw [mem_trisL hs.win]
  unfold ownT
  split
  · rename_i h; exact ⟨r1, by dsimp only; omega, by dsimp only; omega⟩
  · split
    · rename_i h1 h; exact ⟨r2, by dsimp only; omega, by dsimp only; omega⟩
    · exact ⟨e, by dsimp only; omega, by dsimp only; omega⟩
theorem goM_place {M : MeshM} (hs : Sound M) {p : Pt} : ∀ (n : Nat) (t : Tri3) (x : Plc), t ∈ trisL M.ap M.P.length → goM M p n t = some x → ∃ u, u ∈ trisL M.ap M.P.length ∧ outM M p u = none ∧ x = placeM M p u
  | 0, _, _, _, h => by cases h
  | n + 1, t, x, ht, h => by
    cases e : outM M p t with
    | none => rw [goM_found e] at h; cases h; exact ⟨t, ht, e, rfl⟩
    | some i =>
      cases e2 : M.ap (corT t (i + 1)) (corT t i) with
      | none => rw [goM_stop e e2] at h; cases h
      | some c => rw [goM_on e e2] at h; exact goM_place hs n _ x (ownT_tris hs e2) h
theorem scanM_place {M : MeshM} {p : Pt} : ∀ (L : List Tri3), (∃ u, u ∈ L ∧ outM M p u = none ∧ scanM M p L = placeM M p u) ∨ (scanM M p L = ⟨4, 0, 0, 0⟩ ∧ ∀ u, u ∈ L → outM M p u ≠ none)
  | [] => .inr ⟨rfl, fun u h => absurd h (by simp)⟩
  | t :: r => by
    cases e : outM M p t with
    | none => exact .inl ⟨t, by simp, e, scanM_here e⟩
    | some i =>
      rw [scanM_on e]
      rcases scanM_place r with ⟨u, h1, h2, h3⟩ | ⟨h1, h2⟩
      · exact .inl ⟨u, by simp [h1], h2, h3⟩
      · refine .inr ⟨h1, fun u hu => ?_⟩
        rcases List.mem_cons.1 hu with rfl | hu
        · rw [e]; simp
        · exact h2 u hu
/-- the law, plainly: Find tells a place that the point has; Outside, if it has none -/
theorem Fnd.finds {M : MeshM} {G : List Tri3} {l : List Pt} {p : Pt} (h : Fnd M G l p) (s : Nat) : (plL l G p = [] ∧ findM M p s = ⟨4, 0, 0, 0⟩) ∨ findM M p s ∈ plL l G p := by
  unfold findM findL
  by_cases h0 : (trisL M.ap M.P.length).length = 0
  · rw [if_pos h0]
    refine .inl ⟨h.nowhere fun u hu => ?_, rfl⟩
    rw [List.length_eq_zero_iff.1 h0] at hu; simp at hu
  · rw [if_neg h0]
    have ht : (trisL M.ap M.P.length).getD (s % (trisL M.ap M.P.length).length) (0, 0, 0) ∈ trisL M.ap M.P.length := by
      have hlt := Nat.mod_lt s (Nat.pos_of_ne_zero h0)
      rw [List.getD_eq_getElem?_getD, List.getElem?_eq_getElem hlt]
      exact List.getElem_mem hlt
    split
    · rename_i x hx
      obtain ⟨u, hu, ho, rfl⟩ := goM_place h.tw.s _ _ x ht hx
      exact .inr (h.place hu ho)
    · rcases scanM_place (M := M) (p := p) (trisL M.ap M.P.length) with ⟨u, h1, h2, h3⟩ | ⟨h1, h2⟩
      · rw [h3]; exact .inr (h.place h1 h2)
      · exact .inl ⟨h.nowhere h2, h1⟩

/-- what is made of both alike -/
theorem twin_good : ∀ (L : List Tri3) {M : MeshM} {T : List Tri3}, Twin M T → Twin (foldM M L) (T ++ goodL M L)
  | [], M, T, h => by rw [foldM_nil]; simpa [goodL] using h
  | t :: r, M, T, h => by
    have hm := h.make t.1 t.2.1 t.2.2
    have ih := twin_good r hm
    rw [foldM_cons]
    unfold goodL
    unfold mkR at ih
    rw [h.code] at ih
    split
    · rename_i hc
      rw [if_pos hc] at ih
      have e : T ++ t :: goodL (makeR M t.1 t.2.1 t.2.2) r = T ++ [(t.1, t.2.1, t.2.2)] ++ goodL (makeR M t.1 t.2.1 t.2.2) r := by simp
      rw [e]; exact ih
    · rename_i hc
      rw [if_neg hc] at ih
      exact ih

end Go.Proofs.YtdoaniccefdkaaaGreatDoor
