/- Part of the proof. No conditions. -/
import Derived.Test.YtdoaniccefdkaaaGreatDoorZC
import Derived.Test.YtdoaniccefdkaaaGreatDoorZO
import Derived.Test.YtdoaniccefdkaaaGreatDoorZP
import Derived.Test.YtdoaniccefdkaaaGreatDoorZR
import Derived.Lib.SliceRun
import Derived.Laws.IdiomCopy
import Derived.Deep.RegionHeld3
import Derived.IntWalk
import Derived.Deep.LoopGhost

set_option linter.all false
/- walk's examples, plainly. -/
namespace Go.Proofs.YtdoaniccefdkaaaGreatDoor
open Go.RowKit Tvf Go.Maps Go.WideMaps

theorem plc_ext {x : Plc} {k a b c : Int} (h : x.k = k ∧ x.a = a ∧ x.b = b ∧ x.c = c) : x = ⟨k, a, b, c⟩ := by
  obtain ⟨h1, h2, h3, h4⟩ := h
  cases x
  subst h1 h2 h3 h4
  rfl
def wF1 : Nat := 4607182418800017408
def wFh : Nat := 4602678819172646912
def wF3 : Nat := 4613937818241073152
theorem sq_findA : findM sqM (0, 0) 1 = ⟨3, 0, 0, 0⟩ := plc_ext (by decide +kernel)
theorem sq_findB : findM sqM (wF1, wF1) 2 = ⟨2, 1, 2, 0⟩ := plc_ext (by decide +kernel)
theorem sq_findC : findM sqM (wFh, wFh) 3 = ⟨1, 0, 1, 2⟩ := plc_ext (by decide +kernel)
theorem sq_findD : findM sqM (wF3, 0) 4 = ⟨4, 0, 0, 0⟩ := plc_ext (by decide +kernel)

/-- do two segments cross? -/
def crossB (x y u v : Pt) : Bool := decide (signI x y u * signI x y v < 0) && decide (signI u v x * signI u v y < 0)
def acrossL (M : MeshM) (a b : Int) : List (Int × Int) := (edgeL M.ap M.P.length).filter fun e => crossB (ptAt M a) (ptAt M b) (ptAt M e.1) (ptAt M e.2)
theorem sq_across : acrossL sqM 0 3 = [(1, 2)] := by decide +kernel
/-- nothing lies between two points -/
def clearB (M : MeshM) (a b : Int) : Bool := (trisL M.ap M.P.length).all fun t => [t.1, t.2.1, t.2.2].all fun c => decide (c = a) || (decide (c = b) || decide (signI (ptAt M a) (ptAt M b) (ptAt M c) ≠ 0))
theorem sq_clear : clearB sqM 0 3 = true := by decide +kernel
theorem sq_sq : foldM (emptyM sqP) [(0, 1, 2), (1, 3, 2)] = sqM := by
  unfold foldM sqM sq1
  simp only [List.foldl]

end Go.Proofs.YtdoaniccefdkaaaGreatDoor

/- orient.Cross; walk.Across$1; rows of pairs that are written to. -/
namespace Go.Proofs.YtdoaniccefdkaaaGreatDoor
open Go.RowKit Tvf Go.Maps Go.WideMaps

/-- pairs in a row that may be written to -/
def PRow (w : World) (g : Nat) (L : List (Int × Int)) : Prop := g < w.heap.size ∧ ∀ i, i < L.length →
  w.cell? ⟨g, i * 2, none⟩ = some (.int .i64 (L.getD i (0, 0)).1) ∧ w.cell? ⟨g, i * 2 + 1, none⟩ = some (.int .i64 (L.getD i (0, 0)).2) ∧ w.frozen? ⟨g, i * 2, none⟩ = false ∧ w.frozen? ⟨g, i * 2 + 1, none⟩ = false

theorem PRow.below {w w' : World} {g : Nat} {L : List (Int × Int)} (h : PRow w g L) (hb : Below w.heap.size w w') : PRow w' g L :=
  ⟨Nat.lt_of_lt_of_le h.1 hb.size, fun i hi => by
    obtain ⟨h1, h2, h3, h4⟩ := h.2 i hi
    exact ⟨(hb.cell (p := ⟨g, i * 2, none⟩) h.1).trans h1, (hb.cell (p := ⟨g, i * 2 + 1, none⟩) h.1).trans h2, (hb.frozen (p := ⟨g, i * 2, none⟩) h.1).trans h3, (hb.frozen (p := ⟨g, i * 2 + 1, none⟩) h.1).trans h4⟩⟩

theorem addr_ne {g a b : Nat} (h : a ≠ b) : (⟨g, a, none⟩ : Addr) ≠ ⟨g, b, none⟩ := fun e => h (by injection e)

theorem getD_setP {L : List (Int × Int)} {j i : Nat} {d : Int × Int} (h : j < L.length) : (L.set j d).getD i (0, 0) = if i = j then d else L.getD i (0, 0) := by
  rw [List.getD_eq_getElem?_getD, List.getElem?_set]
  split
  · rename_i e; subst e; simp [h]
  · rename_i e; rw [if_neg (fun h => e h.symm), ← List.getD_eq_getElem?_getD]

theorem PRow.set {w : World} {g : Nat} {L : List (Int × Int)} (h : PRow w g L) {j : Nat} (hj : j < L.length) (x y : Int) :
    PRow ((w.setCell ⟨g, j * 2, none⟩ (.int .i64 x)).setCell ⟨g, j * 2 + 1, none⟩ (.int .i64 y)) g (L.set j (x, y)) := by
  refine ⟨by simpa [World.setCell] using h.1, fun i hi => ?_⟩
  rw [List.length_set] at hi
  obtain ⟨h1, h2, h3, h4⟩ := h.2 i hi
  obtain ⟨k1, k2, k3, k4⟩ := h.2 j hj
  rw [getD_setP hj]
  simp only [World.frozen?_setCell]
  by_cases e : i = j
  · subst e
    rw [if_pos rfl]
    refine ⟨?_, ?_, h3, h4⟩
    · rw [World.cell?_setCell_other _ _ _ _ (addr_ne (by omega)), World.cell?_setCell_same _ _ _ h1]
    · exact World.cell?_setCell_same _ _ _ ((World.cell?_setCell_other _ _ _ _ (addr_ne (by omega))).trans h2)
  · rw [if_neg e]
    refine ⟨?_, ?_, h3, h4⟩
    · rw [World.cell?_setCell_other _ _ _ _ (addr_ne (by omega)), World.cell?_setCell_other _ _ _ _ (addr_ne (by omega))]; exact h1
    · rw [World.cell?_setCell_other _ _ _ _ (addr_ne (by omega)), World.cell?_setCell_other _ _ _ _ (addr_ne (by omega))]; exact h2

theorem PRow.of_cells {w : World} {g : Nat} {L : List (Int × Int)} (h : PRow w g L) : KCells encP w (some ⟨g, 0, none⟩) L := by
  intro hl
  refine ⟨g, rfl, h.1, fun j u hu => ?_⟩
  have hlt : j < (cellsK encP L).length := (List.getElem?_eq_some_iff.1 hu).1
  rw [cellsK_len encP_len] at hlt
  obtain ⟨i, r, hr, e⟩ : ∃ i r, r < 2 ∧ j = i * 2 + r := ⟨j / 2, j % 2, Nat.mod_lt _ (by omega), by omega⟩
  have hi : i < L.length := by omega
  have h0 := cellsK_at encP_len L i hi r hr
  have hg : L.getD i (0, 0) = L[i] := by rw [List.getD_eq_getElem?_getD, List.getElem?_eq_getElem hi]; rfl
  obtain ⟨h1, h2, _⟩ := h.2 i hi
  rw [hg] at h1 h2
  rw [e, h0] at hu
  rw [e]
  rcases (show r = 0 ∨ r = 1 by omega) with rfl | rfl
  · rw [Nat.add_zero, h1]; exact hu
  · rw [h2]; exact hu

theorem PRow.of_own {base : Nat} {w : World} {g cap : Nat} {T : TypeId} {L : List (Int × Int)} (h : w.ownsRow base T 2 (.slice (some ⟨g, 0, none⟩) L.length cap) L.length (cellsK encP L)) : PRow w g L := by
  refine ⟨(h.lt g rfl).2, fun i hi => ?_⟩
  have hg : L.getD i (0, 0) = L[i] := by rw [List.getD_eq_getElem?_getD, List.getElem?_eq_getElem hi]; rfl
  have h0 := cellsK_at encP_len L i hi 0 (by omega)
  have h1 := cellsK_at encP_len L i hi 1 (by omega)
  rw [Nat.add_zero] at h0
  rw [hg]
  exact ⟨(h.cellAt (i * 2) (by omega)).trans h0, (h.cellAt (i * 2 + 1) (by omega)).trans h1, h.frozenAt _, h.frozenAt _⟩

/-- 'clear' over a row of pairs -/
theorem run_clear_pairs (w : World) (ty : TypeId) (b o n c : Nat) (hn : 0 < n) (hc : ∀ j, j < n * 2 → (w.cell? ⟨b, o + j, none⟩).isSome = true) (hf : ∀ j, j < n * 2 → w.frozen? ⟨b, o + j, none⟩ = false) :
    (Builtin.clear_ #[78] ty #[.slice (some ⟨b, o, none⟩) n c]).run Tryz.prog w = .ok (.tuple #[]) (w.setCells b o (List.replicate (n * 2) (.int .i64 0))) := by
  have hzc : (Builtin.zeroCells #[Value.int .i64 0, Value.int .i64 0] n).toList = List.replicate (n * 2) (.int .i64 0) := by
    simp only [Builtin.zeroCells]
    apply List.ext_getElem
    · simp
    · intro i h1 h2
      have : i % 2 = 0 ∨ i % 2 = 1 := by omega
      rcases this with e | e <;> simp [e]
  have hst := run_storeCells_cells (P := Tryz.prog) b o (List.replicate (n * 2) (.int .i64 0)) 0 w (by simpa using hc) (by simpa using hf) (by intro v hv'; rw [List.eq_of_mem_replicate hv']; rfl)
  simp only [Nat.add_zero] at hst
  obtain ⟨m, rfl⟩ : ∃ m, n = m + 1 := ⟨n - 1, by omega⟩
  have hv : (zeroValue 62).run Tryz.prog w = .ok (.agg #[.int .i64 0, .int .i64 0]) w := by kernel_rfl
  have hcells : (Value.agg #[.int .i64 0, .int .i64 0]).cells = #[.int .i64 0, .int .i64 0] := rfl
  simp [Builtin.clear_, run_underlying Tryz.underlying78, hv, hcells, hzc, hst]

/-- what the closure of Across tells -/
theorem cross_keep {w W W' : World} {p q r s : Pt} (hb : Below W.heap.size W W')
    (h : (W.cell? ⟨w.heap.size, 0, none⟩ = some (.float .f64 p.1) ∧ W.cell? ⟨w.heap.size, 1, none⟩ = some (.float .f64 p.2)) ∧ (W.cell? ⟨w.heap.size + 1, 0, none⟩ = some (.float .f64 q.1) ∧ W.cell? ⟨w.heap.size + 1, 1, none⟩ = some (.float .f64 q.2)) ∧ (W.cell? ⟨w.heap.size + 1 + 1, 0, none⟩ = some (.float .f64 r.1) ∧ W.cell? ⟨w.heap.size + 1 + 1, 1, none⟩ = some (.float .f64 r.2)) ∧ (W.cell? ⟨w.heap.size + 1 + 1 + 1, 0, none⟩ = some (.float .f64 s.1) ∧ W.cell? ⟨w.heap.size + 1 + 1 + 1, 1, none⟩ = some (.float .f64 s.2)) ∧ Below w.heap.size w W) :
    (W'.cell? ⟨w.heap.size, 0, none⟩ = some (.float .f64 p.1) ∧ W'.cell? ⟨w.heap.size, 1, none⟩ = some (.float .f64 p.2)) ∧ (W'.cell? ⟨w.heap.size + 1, 0, none⟩ = some (.float .f64 q.1) ∧ W'.cell? ⟨w.heap.size + 1, 1, none⟩ = some (.float .f64 q.2)) ∧ (W'.cell? ⟨w.heap.size + 1 + 1, 0, none⟩ = some (.float .f64 r.1) ∧ W'.cell? ⟨w.heap.size + 1 + 1, 1, none⟩ = some (.float .f64 r.2)) ∧ (W'.cell? ⟨w.heap.size + 1 + 1 + 1, 0, none⟩ = some (.float .f64 s.1) ∧ W'.cell? ⟨w.heap.size + 1 + 1 + 1, 1, none⟩ = some (.float .f64 s.2)) ∧ Below w.heap.size w W' :=
  ⟨⟨cell_keep h.1.1 hb, cell_keep h.1.2 hb⟩, ⟨cell_keep h.2.1.1 hb, cell_keep h.2.1.2 hb⟩, ⟨cell_keep h.2.2.1.1 hb, cell_keep h.2.2.1.2 hb⟩, ⟨cell_keep h.2.2.2.1.1 hb, cell_keep h.2.2.2.1.2 hb⟩, h.2.2.2.2.trans (hb.mono h.2.2.2.2.size)⟩

end Go.Proofs.YtdoaniccefdkaaaGreatDoor

/- orient.Cross; walk.Across$1. -/
namespace Go.Proofs.YtdoaniccefdkaaaGreatDoor
open Go.RowKit Tvf Go.Maps Go.WideMaps

theorem mul_sign_small {a b : Int} (ha : a = -1 ∨ a = 0 ∨ a = 1) (hb : b = -1 ∨ b = 0 ∨ b = 1) : IntKind.i64.wrap (a * b) = a * b ∧ wrap64 (a * b) = a * b := by
  have h : -1 ≤ a * b ∧ a * b ≤ 1 := by rcases ha with rfl | rfl | rfl <;> rcases hb with rfl | rfl | rfl <;> decide
  exact ⟨IntWalk.i64_in _ (by omega), by unfold wrap64; omega⟩

theorem boxes4p (w : World) (p q r s : Pt) (T : TypeId) :
    ∀ W, W = ((((w.alloc (.cells #[.float .f64 p.1, .float .f64 p.2] T)).alloc (.cells #[.float .f64 q.1, .float .f64 q.2] T)).alloc (.cells #[.float .f64 r.1, .float .f64 r.2] T)).alloc (.cells #[.float .f64 s.1, .float .f64 s.2] T)) →
    (W.cell? ⟨w.heap.size, 0, none⟩ = some (.float .f64 p.1) ∧ W.cell? ⟨w.heap.size, 1, none⟩ = some (.float .f64 p.2)) ∧ (W.cell? ⟨w.heap.size + 1, 0, none⟩ = some (.float .f64 q.1) ∧ W.cell? ⟨w.heap.size + 1, 1, none⟩ = some (.float .f64 q.2)) ∧ (W.cell? ⟨w.heap.size + 1 + 1, 0, none⟩ = some (.float .f64 r.1) ∧ W.cell? ⟨w.heap.size + 1 + 1, 1, none⟩ = some (.float .f64 r.2)) ∧ (W.cell? ⟨w.heap.size + 1 + 1 + 1, 0, none⟩ = some (.float .f64 s.1) ∧ W.cell? ⟨w.heap.size + 1 + 1 + 1, 1, none⟩ = some (.float .f64 s.2)) ∧ Below w.heap.size w W := by
  have e1 : (w.alloc (.cells #[.float .f64 p.1, .float .f64 p.2] T)).heap.size = w.heap.size + 1 := by simp
  have e2 : ((w.alloc (.cells #[.float .f64 p.1, .float .f64 p.2] T)).alloc (.cells #[.float .f64 q.1, .float .f64 q.2] T)).heap.size = w.heap.size + 1 + 1 := by simp
  have e3 : (((w.alloc (.cells #[.float .f64 p.1, .float .f64 p.2] T)).alloc (.cells #[.float .f64 q.1, .float .f64 q.2] T)).alloc (.cells #[.float .f64 r.1, .float .f64 r.2] T)).heap.size = w.heap.size + 1 + 1 + 1 := by simp
  rintro W rfl
  have h1 := new2 w (.float .f64 p.1) (.float .f64 p.2) T
  have h2 := new2 (w.alloc (.cells #[.float .f64 p.1, .float .f64 p.2] T)) (.float .f64 q.1) (.float .f64 q.2) T
  have h3 := new2 ((w.alloc (.cells #[.float .f64 p.1, .float .f64 p.2] T)).alloc (.cells #[.float .f64 q.1, .float .f64 q.2] T)) (.float .f64 r.1) (.float .f64 r.2) T
  have h4 := new2 (((w.alloc (.cells #[.float .f64 p.1, .float .f64 p.2] T)).alloc (.cells #[.float .f64 q.1, .float .f64 q.2] T)).alloc (.cells #[.float .f64 r.1, .float .f64 r.2] T)) (.float .f64 s.1) (.float .f64 s.2) T
  rw [e1] at h2
  rw [e2] at h3
  rw [e3] at h4
  exact ⟨⟨cell_al (cell_al (cell_al h1.1 _) _) _, cell_al (cell_al (cell_al h1.2 _) _) _⟩, ⟨cell_al (cell_al h2.1 _) _, cell_al (cell_al h2.2 _) _⟩, ⟨cell_al h3.1 _, cell_al h3.2 _⟩, h4,
    ((((Below.refl _ w).alloc (Nat.le_refl _) _).alloc (by simp) _).alloc (by simp; omega) _).alloc (by simp; omega) _⟩

set_option maxRecDepth 100000 in
set_option maxHeartbeats 4000000 in
theorem cross_walk (p q r s : Pt) (hp : pt64 p) (hq : pt64 q) (hr : pt64 r) (hs : pt64 s) (w : World) :
    Calls Tryz.prog 118 #[V p, V q, V r, V s] w fun e w' => e = .returned (.bool (crossB p q r s)) ∧ Below w.heap.size w w' := by
  have h3 : ∀ {x y z : Pt}, pt64 x → pt64 y → pt64 z → ∀ t, t ∈ [x, y, z] → pt64 t := by
    intro x y z hx hy hz t ht
    simp only [List.mem_cons, List.not_mem_nil, or_false] at ht
    rcases ht with rfl | rfl | rfl <;> assumption
  have H1 := Lib.hid (fun W => orient_sign p q r (h3 hp hq hr) W)
  have H2 := Lib.hid (fun W => orient_sign p q s (h3 hp hq hs) W)
  have H3 := Lib.hid (fun W => orient_sign r s p (h3 hr hs hp) W)
  have H4 := Lib.hid (fun W => orient_sign r s q (h3 hr hs hq) W)
  obtain ⟨hm1, hm1'⟩ := mul_sign_small (signI_3 p q r) (signI_3 p q s)
  obtain ⟨hm2, hm2'⟩ := mul_sign_small (signI_3 r s p) (signI_3 r s q)
  unfold crossB
  generalize signI p q r = s1 at *
  generalize signI p q s = s2 at *
  generalize signI r s p = s3 at *
  generalize signI r s q = s4 at *
  clear h3 hp hq hr hs
  have n0 := boxes4p w p q r s 52 _ rfl
  unfold V at *
  cases hd : decide (s1 * s2 < 0)
  · go_enter Tryz.func118, Tryz.ntmps118
    go_wp2
    generalize ((((w.alloc (.cells #[.float .f64 p.1, .float .f64 p.2] 52)).alloc (.cells #[.float .f64 q.1, .float .f64 q.2] 52)).alloc (.cells #[.float .f64 r.1, .float .f64 r.2] 52)).alloc (.cells #[.float .f64 s.1, .float .f64 s.2] 52)) = W at *
    have n1 := cross_keep (Below.refl W.heap.size W).drew n0
    refine wp_region_held_drew (S := (fun W' => (W'.cell? ⟨w.heap.size, 0, none⟩ = some (.float .f64 p.1) ∧ W'.cell? ⟨w.heap.size, 1, none⟩ = some (.float .f64 p.2)) ∧ (W'.cell? ⟨w.heap.size + 1, 0, none⟩ = some (.float .f64 q.1) ∧ W'.cell? ⟨w.heap.size + 1, 1, none⟩ = some (.float .f64 q.2)) ∧ (W'.cell? ⟨w.heap.size + 1 + 1, 0, none⟩ = some (.float .f64 r.1) ∧ W'.cell? ⟨w.heap.size + 1 + 1, 1, none⟩ = some (.float .f64 r.2)) ∧ (W'.cell? ⟨w.heap.size + 1 + 1 + 1, 0, none⟩ = some (.float .f64 s.1) ∧ W'.cell? ⟨w.heap.size + 1 + 1 + 1, 1, none⟩ = some (.float .f64 s.2)) ∧ Below w.heap.size w W')) (by kernel_rfl) n1 (fun hHeld => ?_)
    refine wpAnyH_take (i := 0) (v := .agg #[.float .f64 p.1, .float .f64 p.2]) rfl (by kernel_rfl) (by kernel_rfl) (by kernel_rfl) (fun _ _ _ h => h) (Or.inl ⟨by rfl, ?_⟩) (by assumption) ?_
    · (intro w hSw; (try dsimp only at hSw); go_simp; try (with_reducible rfl))
    try simp only [Act.put, List.getElem_toArray, List.getElem_cons_succ, List.getElem_cons_zero, List.setIfInBounds_toArray, List.set_cons_zero, List.set_cons_succ]
    refine wpAnyH_take (i := 1) (v := .agg #[.float .f64 q.1, .float .f64 q.2]) rfl (by kernel_rfl) (by kernel_rfl) (by kernel_rfl) (fun _ _ _ h => h) (Or.inl ⟨by rfl, ?_⟩) (by assumption) ?_
    · (intro w hSw; (try dsimp only at hSw); go_simp; try (with_reducible rfl))
    try simp only [Act.put, List.getElem_toArray, List.getElem_cons_succ, List.getElem_cons_zero, List.setIfInBounds_toArray, List.set_cons_zero, List.set_cons_succ]
    refine wpAnyH_take (i := 2) (v := .agg #[.float .f64 r.1, .float .f64 r.2]) rfl (by kernel_rfl) (by kernel_rfl) (by kernel_rfl) (fun _ _ _ h => h) (Or.inl ⟨by rfl, ?_⟩) (by assumption) ?_
    · (intro w hSw; (try dsimp only at hSw); go_simp; try (with_reducible rfl))
    try simp only [Act.put, List.getElem_toArray, List.getElem_cons_succ, List.getElem_cons_zero, List.setIfInBounds_toArray, List.set_cons_zero, List.set_cons_succ]
    refine wpAnyH_take (i := 4) (v := .agg #[.float .f64 p.1, .float .f64 p.2]) rfl (by kernel_rfl) (by kernel_rfl) (by kernel_rfl) (fun _ _ _ h => h) (Or.inl ⟨by rfl, ?_⟩) (by assumption) ?_
    · (intro w hSw; (try dsimp only at hSw); go_simp; try (with_reducible rfl))
    try simp only [Act.put, List.getElem_toArray, List.getElem_cons_succ, List.getElem_cons_zero, List.setIfInBounds_toArray, List.set_cons_zero, List.set_cons_succ]
    refine wpAnyH_take (i := 5) (v := .agg #[.float .f64 q.1, .float .f64 q.2]) rfl (by kernel_rfl) (by kernel_rfl) (by kernel_rfl) (fun _ _ _ h => h) (Or.inl ⟨by rfl, ?_⟩) (by assumption) ?_
    · (intro w hSw; (try dsimp only at hSw); go_simp; try (with_reducible rfl))
    try simp only [Act.put, List.getElem_toArray, List.getElem_cons_succ, List.getElem_cons_zero, List.setIfInBounds_toArray, List.set_cons_zero, List.set_cons_succ]
    refine wpAnyH_take (i := 6) (v := .agg #[.float .f64 s.1, .float .f64 s.2]) rfl (by kernel_rfl) (by kernel_rfl) (by kernel_rfl) (fun _ _ _ h => h) (Or.inl ⟨by rfl, ?_⟩) (by assumption) ?_
    · (intro w hSw; (try dsimp only at hSw); go_simp; try (with_reducible rfl))
    try simp only [Act.put, List.getElem_toArray, List.getElem_cons_succ, List.getElem_cons_zero, List.setIfInBounds_toArray, List.set_cons_zero, List.set_cons_succ]
    refine wpAnyH_ready (rs := [3]) (by kernel_rfl) (by simp) ?_
    refine AllReadyH.cons rfl (fun K hK => ?_) AllReadyH.nil
    go_simp
    with_reducible refine (H1.out _).mono ?_
    rintro r w1 ⟨rfl, hb1⟩
    have k1 := cross_keep (w := w) (p := p) (q := q) (r := r) (s := s) hb1 (by assumption)
    refine hK.out _ _ k1 (fun hHeld => ?_)
    clear hK K
    try simp only [Act.put, List.getElem_toArray, List.getElem_cons_succ, List.getElem_cons_zero, List.setIfInBounds_toArray, List.set_cons_zero, List.set_cons_succ]
    refine wpAnyH_ready (rs := [7]) (by kernel_rfl) (by simp) ?_
    refine AllReadyH.cons rfl (fun K hK => ?_) AllReadyH.nil
    go_simp
    with_reducible refine (H2.out _).mono ?_
    rintro r w2 ⟨rfl, hb2⟩
    have k2 := cross_keep (w := w) (p := p) (q := q) (r := r) (s := s) hb2 (by assumption)
    refine hK.out _ _ k2 (fun hHeld => ?_)
    clear hK K
    try simp only [Act.put, List.getElem_toArray, List.getElem_cons_succ, List.getElem_cons_zero, List.setIfInBounds_toArray, List.set_cons_zero, List.set_cons_succ]
    refine wpAnyH_take (i := 8) (v := .int .i64 (s1 * s2)) rfl (by kernel_rfl) (by kernel_rfl) (by kernel_rfl) (fun _ _ _ h => h) (Or.inl ⟨by rfl, ?_⟩) (by assumption) ?_
    · (intro w hSw; (try dsimp only at hSw); go_simp; try (with_reducible rfl))
    try simp only [Act.put, List.getElem_toArray, List.getElem_cons_succ, List.getElem_cons_zero, List.setIfInBounds_toArray, List.set_cons_zero, List.set_cons_succ]
    refine wpAnyH_take (i := 9) (v := .bool false) rfl (by kernel_rfl) (by kernel_rfl) (by kernel_rfl) (fun _ _ _ h => h) (Or.inl ⟨by rfl, ?_⟩) (by assumption) ?_
    · (intro w hSw; (try dsimp only at hSw); go_simp; try (with_reducible rfl))
    try simp only [Act.put, List.getElem_toArray, List.getElem_cons_succ, List.getElem_cons_zero, List.setIfInBounds_toArray, List.set_cons_zero, List.set_cons_succ]
    refine wpAnyH_take (i := 10) (v := .bool false) rfl (by kernel_rfl) (by kernel_rfl) (by kernel_rfl) (fun _ _ _ h => h) (Or.inl ⟨by rfl, ?_⟩) (by assumption) ?_
    · (intro w hSw; (try dsimp only at hSw); go_simp; try (with_reducible rfl))
    try simp only [Act.put, List.getElem_toArray, List.getElem_cons_succ, List.getElem_cons_zero, List.setIfInBounds_toArray, List.set_cons_zero, List.set_cons_succ]
    refine wpAnyH_take (i := 11) (v := undef) rfl (by kernel_rfl) (by kernel_rfl) (by kernel_rfl) (fun _ _ _ h => h) (Or.inr ⟨by kernel_rfl, rfl⟩) (by assumption) ?_
    try simp only [Act.put, List.getElem_toArray, List.getElem_cons_succ, List.getElem_cons_zero, List.setIfInBounds_toArray, List.set_cons_zero, List.set_cons_succ]
    refine wpAnyH_take (i := 12) (v := undef) rfl (by kernel_rfl) (by kernel_rfl) (by kernel_rfl) (fun _ _ _ h => h) (Or.inr ⟨by kernel_rfl, rfl⟩) (by assumption) ?_
    try simp only [Act.put, List.getElem_toArray, List.getElem_cons_succ, List.getElem_cons_zero, List.setIfInBounds_toArray, List.set_cons_zero, List.set_cons_succ]
    refine wpAnyH_take (i := 13) (v := undef) rfl (by kernel_rfl) (by kernel_rfl) (by kernel_rfl) (fun _ _ _ h => h) (Or.inr ⟨by kernel_rfl, rfl⟩) (by assumption) ?_
    try simp only [Act.put, List.getElem_toArray, List.getElem_cons_succ, List.getElem_cons_zero, List.setIfInBounds_toArray, List.set_cons_zero, List.set_cons_succ]
    refine wpAnyH_take (i := 14) (v := undef) rfl (by kernel_rfl) (by kernel_rfl) (by kernel_rfl) (fun _ _ _ h => h) (Or.inr ⟨by kernel_rfl, rfl⟩) (by assumption) ?_
    try simp only [Act.put, List.getElem_toArray, List.getElem_cons_succ, List.getElem_cons_zero, List.setIfInBounds_toArray, List.set_cons_zero, List.set_cons_succ]
    refine wpAnyH_take (i := 15) (v := undef) rfl (by kernel_rfl) (by kernel_rfl) (by kernel_rfl) (fun _ _ _ h => h) (Or.inr ⟨by kernel_rfl, rfl⟩) (by assumption) ?_
    try simp only [Act.put, List.getElem_toArray, List.getElem_cons_succ, List.getElem_cons_zero, List.setIfInBounds_toArray, List.set_cons_zero, List.set_cons_succ]
    refine wpAnyH_take (i := 16) (v := undef) rfl (by kernel_rfl) (by kernel_rfl) (by kernel_rfl) (fun _ _ _ h => h) (Or.inr ⟨by kernel_rfl, rfl⟩) (by assumption) ?_
    try simp only [Act.put, List.getElem_toArray, List.getElem_cons_succ, List.getElem_cons_zero, List.setIfInBounds_toArray, List.set_cons_zero, List.set_cons_succ]
    refine wpAnyH_take (i := 17) (v := undef) rfl (by kernel_rfl) (by kernel_rfl) (by kernel_rfl) (fun _ _ _ h => h) (Or.inr ⟨by kernel_rfl, rfl⟩) (by assumption) ?_
    try simp only [Act.put, List.getElem_toArray, List.getElem_cons_succ, List.getElem_cons_zero, List.setIfInBounds_toArray, List.set_cons_zero, List.set_cons_succ]
    refine wpAnyH_take (i := 18) (v := undef) rfl (by kernel_rfl) (by kernel_rfl) (by kernel_rfl) (fun _ _ _ h => h) (Or.inr ⟨by kernel_rfl, rfl⟩) (by assumption) ?_
    try simp only [Act.put, List.getElem_toArray, List.getElem_cons_succ, List.getElem_cons_zero, List.setIfInBounds_toArray, List.set_cons_zero, List.set_cons_succ]
    refine wpAnyH_take (i := 19) (v := undef) rfl (by kernel_rfl) (by kernel_rfl) (by kernel_rfl) (fun _ _ _ h => h) (Or.inr ⟨by kernel_rfl, rfl⟩) (by assumption) ?_
    try simp only [Act.put, List.getElem_toArray, List.getElem_cons_succ, List.getElem_cons_zero, List.setIfInBounds_toArray, List.set_cons_zero, List.set_cons_succ]
    refine wpAnyH_take (i := 20) (v := undef) rfl (by kernel_rfl) (by kernel_rfl) (by kernel_rfl) (fun _ _ _ h => h) (Or.inr ⟨by kernel_rfl, rfl⟩) (by assumption) ?_
    try simp only [Act.put, List.getElem_toArray, List.getElem_cons_succ, List.getElem_cons_zero, List.setIfInBounds_toArray, List.set_cons_zero, List.set_cons_succ]
    refine wpAnyH_take (i := 21) (v := .bool false) rfl (by kernel_rfl) (by kernel_rfl) (by kernel_rfl) (fun _ _ _ h => h) (Or.inl ⟨by rfl, ?_⟩) (by assumption) ?_
    · (intro w hSw; (try dsimp only at hSw); go_simp; try (with_reducible rfl))
    try simp only [Act.put, List.getElem_toArray, List.getElem_cons_succ, List.getElem_cons_zero, List.setIfInBounds_toArray, List.set_cons_zero, List.set_cons_succ]
    refine wpAnyH_take (i := 22) (v := .bool false) rfl (by kernel_rfl) (by kernel_rfl) (by kernel_rfl) (fun _ _ _ h => h) (Or.inl ⟨by rfl, ?_⟩) (by assumption) ?_
    · (intro w hSw; (try dsimp only at hSw); go_simp; try (with_reducible rfl))
    try simp only [Act.put, List.getElem_toArray, List.getElem_cons_succ, List.getElem_cons_zero, List.setIfInBounds_toArray, List.set_cons_zero, List.set_cons_succ]
    refine wpAnyH_done (by kernel_rfl) ?_ _
    go_wp2
    go_ret
    exact ⟨by simp, k2.2.2.2.2⟩
  · go_enter Tryz.func118, Tryz.ntmps118
    go_wp2
    generalize ((((w.alloc (.cells #[.float .f64 p.1, .float .f64 p.2] 52)).alloc (.cells #[.float .f64 q.1, .float .f64 q.2] 52)).alloc (.cells #[.float .f64 r.1, .float .f64 r.2] 52)).alloc (.cells #[.float .f64 s.1, .float .f64 s.2] 52)) = W at *
    have n1 := cross_keep (Below.refl W.heap.size W).drew n0
    go_region_held3 (fun W' => (W'.cell? ⟨w.heap.size, 0, none⟩ = some (.float .f64 p.1) ∧ W'.cell? ⟨w.heap.size, 1, none⟩ = some (.float .f64 p.2)) ∧ (W'.cell? ⟨w.heap.size + 1, 0, none⟩ = some (.float .f64 q.1) ∧ W'.cell? ⟨w.heap.size + 1, 1, none⟩ = some (.float .f64 q.2)) ∧ (W'.cell? ⟨w.heap.size + 1 + 1, 0, none⟩ = some (.float .f64 r.1) ∧ W'.cell? ⟨w.heap.size + 1 + 1, 1, none⟩ = some (.float .f64 r.2)) ∧ (W'.cell? ⟨w.heap.size + 1 + 1 + 1, 0, none⟩ = some (.float .f64 s.1) ∧ W'.cell? ⟨w.heap.size + 1 + 1 + 1, 1, none⟩ = some (.float .f64 s.2)) ∧ Below w.heap.size w W') (first | assumption | exact cross_keep (Below.refl _ _).drew (by assumption))
      (first
        | (go_at_call 90; with_reducible refine (H1.out _).mono ?_; rintro r w1 ⟨rfl, hb1⟩; have k1 := cross_keep hb1 (by assumption))
        | (go_at_call 90; with_reducible refine (H2.out _).mono ?_; rintro r w2 ⟨rfl, hb2⟩; have k2 := cross_keep hb2 (by assumption))
        | (go_at_call 90; with_reducible refine (H3.out _).mono ?_; rintro r w3 ⟨rfl, hb3⟩; have k3 := cross_keep hb3 (by assumption))
        | (go_at_call 90; with_reducible refine (H4.out _).mono ?_; rintro r w4 ⟨rfl, hb4⟩; have k4 := cross_keep hb4 (by assumption)))
    go_wp2
    go_ret
    exact ⟨by simp, k4.2.2.2.2⟩

end Go.Proofs.YtdoaniccefdkaaaGreatDoor

/- walk.Across$1; slices.IndexFunc, DeleteFunc at a row of pairs. -/
namespace Go.Proofs.YtdoaniccefdkaaaGreatDoor
open Go.RowKit Tvf Go.Maps Go.WideMaps

set_option maxRecDepth 100000 in
set_option maxHeartbeats 4000000 in
theorem across1_walk {w : World} {mb n : Nat} {M : MeshM} {F : Nat → Prop} (h : MeshAt w mb n M F) (h64 : ∀ p, p ∈ M.P → pt64 p) (X Y : Pt) (hX : pt64 X) (hY : pt64 Y) (i j : Int) {bm bx by_ : Nat}
    (cm : w.cell? ⟨bm, 0, none⟩ = some (.pointer (some ⟨mb, 0, none⟩))) (cx : w.cell? ⟨bx, 0, none⟩ = some (.float .f64 X.1) ∧ w.cell? ⟨bx, 1, none⟩ = some (.float .f64 X.2)) (cy : w.cell? ⟨by_, 0, none⟩ = some (.float .f64 Y.1) ∧ w.cell? ⟨by_, 1, none⟩ = some (.float .f64 Y.2)) :
    Calls Tryz.prog 117 #[.agg #[.int .i64 i, .int .i64 j], .pointer (some ⟨bm, 0, none⟩), .pointer (some ⟨bx, 0, none⟩), .pointer (some ⟨by_, 0, none⟩)] w fun r w' => r = .returned (.bool (!crossB X Y (ptAt M i) (ptAt M j))) ∧ Below w.heap.size w w' := by
  have HP := Lib.hid (fun W (hb : Below w.heap.size w W) i => point_walk (h.below hb) i)
  have HX := Lib.hid (fun W => cross_walk X Y (ptAt M i) (ptAt M j) hX hY (ptAt_64 h64 i) (ptAt_64 h64 j) W)
  have HC : Hid (∀ W, Below w.heap.size w W → W.cell? ⟨bm, 0, none⟩ = some (.pointer (some ⟨mb, 0, none⟩)) ∧ (W.cell? ⟨bx, 0, none⟩ = some (.float .f64 X.1) ∧ W.cell? ⟨bx, 1, none⟩ = some (.float .f64 X.2)) ∧ (W.cell? ⟨by_, 0, none⟩ = some (.float .f64 Y.1) ∧ W.cell? ⟨by_, 1, none⟩ = some (.float .f64 Y.2))) :=
    fun W hb => ⟨cell_keep cm hb, ⟨cell_keep cx.1 hb, cell_keep cx.2 hb⟩, ⟨cell_keep cy.1 hb, cell_keep cy.2 hb⟩⟩
  clear h h64 hX hY cm cx cy
  have HPi := Lib.hid (fun W hb => HP.out W hb i)
  have HPj := Lib.hid (fun W hb => HP.out W hb j)
  clear HP
  unfold V at *
  generalize crossB X Y (ptAt M i) (ptAt M j) = cr at *
  generalize ptAt M i = pi at *
  generalize ptAt M j = pj at *
  generalize hasM M i = ki at *
  generalize hasM M j = kj at *
  have b0 : Below w.heap.size w (w.alloc (.cells #[.int .i64 i, .int .i64 j] 62)) := (Below.refl _ _).alloc (Nat.le_refl _) _
  have BX := Lib.hid (BoxN.new w #[.int .i64 i, .int .i64 j] 62)
  obtain ⟨c1, c2, c3⟩ := HC.out _ b0
  go_enter Tryz.func117, Tryz.ntmps117
  go_wp2_with (first
    | (go_at_call 48; with_reducible refine (HPi.out _ b0).mono ?_; rintro r w1 ⟨rfl, hb1⟩; have b1 := b0.trans (hb1.mono b0.size); have b1' := b1.alloc b1.size (.cells #[.float .f64 pi.1, .float .f64 pi.2] 52); obtain ⟨d1, d2, d3⟩ := HC.out _ b1'; obtain ⟨e1, e2⟩ := ((BX.out.below hb1).al (.cells #[.float .f64 pi.1, .float .f64 pi.2] 52)).c2)
    | (go_at_call 48; with_reducible refine (HPj.out _ b1').mono ?_; rintro r w2 ⟨rfl, hb2⟩; have b2 := b1'.trans (hb2.mono b1'.size); have b2' := b2.alloc b2.size (.cells #[.float .f64 pj.1, .float .f64 pj.2] 52); obtain ⟨f1, f2, f3⟩ := HC.out _ b2'; have g1 := cell_al (cell_keep (new2 w1 (.float .f64 pi.1) (.float .f64 pi.2) 52).1 hb2); have g2 := cell_al (cell_keep (new2 w1 (.float .f64 pi.1) (.float .f64 pi.2) 52).2 hb2))
    | (go_at_call 118; with_reducible refine (HX.out _).mono ?_; rintro r w3 ⟨rfl, hb3⟩))
  go_ret
  exact ⟨rfl, b2'.trans (hb3.mono b2'.size)⟩

set_option maxRecDepth 100000 in
set_option maxHeartbeats 4000000 in
theorem idxP_walk (L : List (Int × Int)) (g cap : Nat) (keep : Int × Int → Bool) (bm bx by_ : Nat) (hlen : L.length ≤ 4294967296) (w : World) (hr : PRow w g L)
    (hcl : ∀ W e, Below w.heap.size w W → Calls Tryz.prog 117 #[.agg #[.int .i64 e.1, .int .i64 e.2], .pointer (some ⟨bm, 0, none⟩), .pointer (some ⟨bx, 0, none⟩), .pointer (some ⟨by_, 0, none⟩)] W fun r w' => r = .returned (.bool (!keep e)) ∧ Below W.heap.size W w') :
    Calls Tryz.prog 163 #[.slice (some ⟨g, 0, none⟩) L.length cap, .func (.func 117) #[] #[.pointer (some ⟨bm, 0, none⟩), .pointer (some ⟨bx, 0, none⟩), .pointer (some ⟨by_, 0, none⟩)]] w fun r w' =>
      ∃ i : Int, r = .returned (.int .i64 i) ∧ Below w.heap.size w w' ∧ Hid ((i = -1 ∧ ∀ j, j < L.length → keep (L.getD j (0, 0)) = true) ∨ ∃ k : Nat, i = k ∧ k < L.length ∧ (∀ j, j < k → keep (L.getD j (0, 0)) = true) ∧ keep (L.getD k (0, 0)) = false) := by
  have HR := Lib.hid hr
  have HCL := Lib.hid hcl
  clear hr hcl
  go_enter Tryz.func163, Tryz.ntmps163
  go_wp2
  go_loopw [8] (fun s8 wr => ∃ k : Nat, k ≤ L.length ∧ s8 = .int .i64 k ∧ Hid (∀ j, j < k → keep (L.getD j (0, 0)) = true) ∧ Hid (Below w.heap.size w wr)) (fun s8 _ => L.length - (intOf s8).toNat)
  case atStart => exact ⟨0, Nat.zero_le _, rfl, fun j hj => absurd hj (by omega), Below.refl _ _⟩
  case round =>
    obtain ⟨k, hk, rfl, HK, HB⟩ := hrel
    by_cases hlt : k < L.length
    · obtain ⟨q0, q1, _, _⟩ := (HR.out.below HB.out).2 k hlt
      obtain ⟨e, he⟩ : ∃ e, Hid (L.getD k (0, 0) = e) := ⟨_, rfl⟩
      rw [he.out] at q0 q1
      have HCk := Lib.hid (HCL.out wr e HB.out)
      have HKL := Lib.hid hlt
      obtain ⟨kk, hkk⟩ : ∃ b, Hid (keep e = b) := ⟨_, rfl⟩
      rw [hkk.out] at HCk
      obtain ⟨ea, eb⟩ := e
      dsimp only at q0 q1 HCk
      cases kk
      · go_wp2_with (go_at_call 117; with_reducible refine HCk.out.mono ?_; rintro r w1 ⟨rfl, hb1⟩)
        go_ret
        exact ⟨k, rfl, HB.out.trans (hb1.mono HB.out.size), .inr ⟨k, rfl, HKL.out, HK.out, by rw [he.out]; exact hkk.out⟩⟩
      · go_wp2_with (go_at_call 117; with_reducible refine HCk.out.mono ?_; rintro r w1 ⟨rfl, hb1⟩)
        go_roundw
        case rel => exact ⟨k + 1, by have := HKL.out; omega, by (first | rfl | rw [wrapS (by have := HKL.out; omega)]), fun j hj => (by rcases Nat.lt_or_ge j k with h | h; exact HK.out j h; (have e : j = k := by omega); rw [e, he.out]; exact hkk.out), HB.out.trans (hb1.mono HB.out.size)⟩
        case measure => have := HKL.out; first | (simp [intOf]; omega) | (rw [wrapS (by omega)]; simp [intOf]; omega)
    · have e : k = L.length := by omega
      subst e
      clear hlt hk
      go_wp2
      go_ret
      exact ⟨-1, rfl, HB.out, .inl ⟨rfl, HK.out⟩⟩

end Go.Proofs.YtdoaniccefdkaaaGreatDoor

/- slices.DeleteFunc at a row of pairs. -/
namespace Go.Proofs.YtdoaniccefdkaaaGreatDoor
open Go.RowKit Tvf Go.Maps Go.WideMaps

theorem take_snocP2 (l : List (Int × Int)) (n : Nat) (h : n < l.length) : l.take (n + 1) = l.take n ++ [l.getD n (0, 0)] := by
  rw [List.take_add_one, List.getElem?_eq_getElem h, List.getD_eq_getElem?_getD, List.getElem?_eq_getElem h]; rfl
/-- what DeleteFunc's loop holds -/
structure DelInv (keep : Int × Int → Bool) (L : List (Int × Int)) (i j : Nat) (dk : List (Int × Int)) : Prop where
  len : dk.length = L.length
  lt : i < j
  le : j ≤ L.length
  low : dk.take i = (L.take j).filter keep
  high : ∀ m, j ≤ m → dk.getD m (0, 0) = L.getD m (0, 0)
theorem filter_all {keep : Int × Int → Bool} {L : List (Int × Int)} {k : Nat} (hk : k ≤ L.length) (h : ∀ j, j < k → keep (L.getD j (0, 0)) = true) : (L.take k).filter keep = L.take k := by
  rw [List.filter_eq_self]
  intro x hx
  obtain ⟨m, hm, rfl⟩ := List.getElem_of_mem hx
  rw [List.length_take] at hm
  have := h m (by omega)
  rw [List.getElem_take]
  rw [List.getD_eq_getElem?_getD, List.getElem?_eq_getElem (by omega)] at this
  exact this
theorem DelInv.start {keep : Int × Int → Bool} {L : List (Int × Int)} {k : Nat} (hk : k < L.length) (h : ∀ j, j < k → keep (L.getD j (0, 0)) = true) (hn : keep (L.getD k (0, 0)) = false) : DelInv keep L k (k + 1) L := by
  refine ⟨rfl, by omega, by omega, ?_, fun _ _ => rfl⟩
  rw [take_snocP2 L k hk, List.filter_append, filter_all (by omega) h, List.filter_cons_of_neg (by rw [hn]; simp)]
  simp
theorem DelInv.skip {keep : Int × Int → Bool} {L dk : List (Int × Int)} {i j : Nat} (h : DelInv keep L i j dk) (hj : j < L.length) (hn : keep (L.getD j (0, 0)) = false) : DelInv keep L i (j + 1) dk := by
  refine ⟨h.len, by have := h.lt; omega, hj, ?_, fun m hm => h.high m (by omega)⟩
  rw [take_snocP2 L j hj, List.filter_append, List.filter_cons_of_neg (by rw [hn]; simp), ← h.low]
  simp
theorem DelInv.put {keep : Int × Int → Bool} {L dk : List (Int × Int)} {i j : Nat} (h : DelInv keep L i j dk) (hj : j < L.length) (hn : keep (L.getD j (0, 0)) = true) : DelInv keep L (i + 1) (j + 1) (dk.set i (L.getD j (0, 0))) := by
  have hi : i < dk.length := by have := h.len; have := h.lt; omega
  refine ⟨by rw [List.length_set]; exact h.len, by have := h.lt; omega, hj, ?_, fun m hm => ?_⟩
  · rw [take_snocP2 _ i (by rw [List.length_set]; exact hi), take_snocP2 L j hj, List.filter_append, List.filter_cons_of_pos hn, ← h.low, getD_setP hi, if_pos rfl]
    congr 1
    apply List.ext_getElem?
    intro m
    rw [List.getElem?_take, List.getElem?_take]
    split
    · rw [List.getElem?_set_ne (by omega)]
    · rfl
  · rw [getD_setP hi, if_neg (by have := h.lt; omega)]; exact h.high m (by omega)

theorem PRow.some {w : World} {g : Nat} {L : List (Int × Int)} (h : PRow w g L) {o : Nat} (ho : o < L.length * 2) : (w.cell? ⟨g, o, none⟩).isSome = true ∧ w.frozen? ⟨g, o, none⟩ = false := by
  obtain ⟨i, r, hr, e⟩ : ∃ i r, r < 2 ∧ o = i * 2 + r := ⟨o / 2, o % 2, Nat.mod_lt _ (by omega), by omega⟩
  obtain ⟨h1, h2, h3, h4⟩ := h.2 i (by omega)
  rcases (show r = 0 ∨ r = 1 by omega) with rfl | rfl
  · rw [e, Nat.add_zero, h1]; exact ⟨rfl, h3⟩
  · rw [e, h2]; exact ⟨rfl, h4⟩
theorem setCells_below {B : Nat} {w0 : World} (b : Nat) (hb : B ≤ b) : ∀ (vs : List Value) (o : Nat) (w : World), Below B w0 w → Below B w0 (w.setCells b o vs)
  | [], _, _, h => h
  | v :: r, o, w, h => setCells_below b hb r (o + 1) _ (h.setCell (p := ⟨b, o, none⟩) hb v)
theorem PRow.cleared {w : World} {g : Nat} {L : List (Int × Int)} (h : PRow w g L) {i n : Nat} (hi : i ≤ L.length) : PRow (w.setCells g (i * 2) (List.replicate n (.int .i64 0))) g (L.take i) := by
  refine ⟨Nat.lt_of_lt_of_le h.1 (setCells_below (B := 0) g (Nat.zero_le _) _ _ _ (Below.refl _ w)).size, fun m hm => ?_⟩
  rw [List.length_take] at hm
  obtain ⟨h1, h2, h3, h4⟩ := h.2 m (by omega)
  have hg : (L.take i).getD m (0, 0) = L.getD m (0, 0) := by
    rw [List.getD_eq_getElem?_getD, List.getElem?_take, if_pos (by omega), ← List.getD_eq_getElem?_getD]
  rw [hg, World.cell?_setCells_out _ _ _ _ _ (fun _ _ => Or.inl (by show m * 2 < i * 2; omega)), World.cell?_setCells_out _ _ _ _ _ (fun _ _ => Or.inl (by show m * 2 + 1 < i * 2; omega)), World.frozen?_setCells, World.frozen?_setCells]
  exact ⟨h1, h2, h3, h4⟩

theorem first_no (L : List (Int × Int)) (keep : Int × Int → Bool) : ∀ n, n ≤ L.length → (∀ j, j < n → keep (L.getD j (0, 0)) = true) ∨ ∃ k, k < n ∧ (∀ j, j < k → keep (L.getD j (0, 0)) = true) ∧ keep (L.getD k (0, 0)) = false
  | 0, _ => .inl fun j hj => absurd hj (by omega)
  | n + 1, h => by
    rcases first_no L keep n (by omega) with h1 | ⟨k, hk, h2, h3⟩
    · cases e : keep (L.getD n (0, 0)) with
      | false => exact .inr ⟨n, by omega, h1, e⟩
      | true =>
        refine .inl fun j hj => ?_
        rcases Nat.lt_or_ge j n with h | h
        · exact h1 j h
        · have : j = n := by omega
          rw [this]; exact e
    · exact .inr ⟨k, by omega, h2, h3⟩

set_option maxRecDepth 100000 in
set_option maxHeartbeats 8000000 in
theorem delP_walk (L : List (Int × Int)) (g cap : Nat) (keep : Int × Int → Bool) (bm bx by_ : Nat) (hlen : L.length ≤ 4294967296) (hcap : L.length ≤ cap) (w : World) (hr : PRow w g L)
    (hcl : ∀ W e, Below g w W → Calls Tryz.prog 117 #[.agg #[.int .i64 e.1, .int .i64 e.2], .pointer (some ⟨bm, 0, none⟩), .pointer (some ⟨bx, 0, none⟩), .pointer (some ⟨by_, 0, none⟩)] W fun r w' => r = .returned (.bool (!keep e)) ∧ Below W.heap.size W w') :
    Calls Tryz.prog 116 #[.slice (some ⟨g, 0, none⟩) L.length cap, .func (.func 117) #[] #[.pointer (some ⟨bm, 0, none⟩), .pointer (some ⟨bx, 0, none⟩), .pointer (some ⟨by_, 0, none⟩)]] w fun r w' =>
      ∃ cap', r = .returned (.slice (some ⟨g, 0, none⟩) (L.filter keep).length cap') ∧ Hid (PRow w' g (L.filter keep)) ∧ Hid (Below g w w') := by
  have HIX := Lib.hid (idxP_walk L g cap keep bm bx by_ hlen w hr (fun W e hb => hcl W e (hb.mono (Nat.le_of_lt hr.1))))
  have HR := Lib.hid hr
  have HCL := Lib.hid hcl
  have HGW := Lib.hid hr.1
  clear hr hcl
  rcases first_no L keep L.length (Nat.le_refl _) with hall | ⟨k, hk, hlo, hno⟩
  · have HF : Hid (L.filter keep = L) := by
      have := filter_all (Nat.le_refl _) hall
      rw [List.take_length] at this
      exact this
    have HIY : Hid (Calls Tryz.prog 163 #[.slice (some ⟨g, 0, none⟩) L.length cap, .func (.func 117) #[] #[.pointer (some ⟨bm, 0, none⟩), .pointer (some ⟨bx, 0, none⟩), .pointer (some ⟨by_, 0, none⟩)]] w fun r w' => r = .returned (.int .i64 (-1)) ∧ Below w.heap.size w w') :=
      HIX.out.mono fun r w' ⟨i, he, hb, hi⟩ => by
        rcases hi.out with ⟨rfl, _⟩ | ⟨k, _, hk, _, hn⟩
        · exact ⟨he, hb⟩
        · rw [hall k hk] at hn; cases hn
    clear hall HIX
    go_enter Tryz.func116, Tryz.ntmps116
    go_wp2_with (go_at_call 163; refine HIY.out.mono ?_; rintro r w1 ⟨rfl, hb1⟩; have HB1 := Lib.hid hb1; clear hb1)
    go_ret
    refine ⟨cap, by rw [HF.out]; rfl, ?_, HB1.out.mono (Nat.le_of_lt HGW.out)⟩
    rw [HF.out]; exact HR.out.below HB1.out
  · have HIY : Hid (Calls Tryz.prog 163 #[.slice (some ⟨g, 0, none⟩) L.length cap, .func (.func 117) #[] #[.pointer (some ⟨bm, 0, none⟩), .pointer (some ⟨bx, 0, none⟩), .pointer (some ⟨by_, 0, none⟩)]] w fun r w' => r = .returned (.int .i64 k) ∧ Below w.heap.size w w') :=
      HIX.out.mono fun r w' ⟨i, he, hb, hi⟩ => by
        rcases hi.out with ⟨_, hall⟩ | ⟨k', rfl, hk', hlo', hn'⟩
        · rw [hall k hk] at hno; cases hno
        · have : k' = k := by
            rcases Nat.lt_trichotomy k' k with h | h | h
            · rw [hlo k' h] at hn'; cases hn'
            · exact h
            · rw [hlo' k h] at hno; cases hno
          subst this
          exact ⟨he, hb⟩
    have HST := Lib.hid (DelInv.start hk hlo hno)
    have HKL := Lib.hid hk
    clear hk hlo hno HIX
    have hk1 : ¬(k : Int) = -1 := by omega
    have hk2 : ((k : Int) == -1) = false := by simpa using hk1
    obtain ⟨z, hz⟩ : ∃ z : Int, Hid (z = ((k + 1 : Nat) : Int)) := ⟨_, rfl⟩
    have hwk : wrap64 ((k : Int) + 1) = z := by rw [hz.out]; exact wrapS (by have := HKL.out; omega)
    go_enter Tryz.func116, Tryz.ntmps116
    go_wp2_with (go_at_call 163; refine HIY.out.mono ?_; rintro r w1 ⟨rfl, hb1⟩; have HB1 := Lib.hid hb1; have HR1 := Lib.hid (HR.out.below hb1); clear hb1)
    simp only [hwk]
    clear hwk hk1 hk2
    go_loopw [5, 6] (fun s5 s6 wr => ∃ (i j : Nat) (dk : List (Int × Int)), s5 = .int .i64 i ∧ s6 = .int .i64 j ∧ Hid (DelInv keep L i j dk) ∧ Hid (PRow wr g dk) ∧ Hid (Below g w wr)) (fun _ s6 _ => L.length - (intOf s6).toNat)
    case atStart => exact ⟨k, k + 1, L, rfl, by rw [hz.out], HST.out, HR1.out, HB1.out.mono (Nat.le_of_lt HGW.out)⟩
    case round =>
      obtain ⟨i, j, dk, rfl, rfl, HI, HP, HB⟩ := hrel
      by_cases hlt : j < L.length
      · have HJL := Lib.hid hlt
        obtain ⟨q0, q1, _, _⟩ := HP.out.2 j (by rw [HI.out.len]; exact hlt)
        have hgj := HI.out.high j (Nat.le_refl _)
        rw [hgj] at q0 q1
        clear hgj
        obtain ⟨e, he⟩ : ∃ e, Hid (L.getD j (0, 0) = e) := ⟨_, rfl⟩
        rw [he.out] at q0 q1
        obtain ⟨kk, hkk⟩ : ∃ b, Hid (keep e = b) := ⟨_, rfl⟩
        have hil : i < L.length := by have := HI.out.lt; omega
        have HGr : Hid (g < wr.heap.size) := HP.out.1
        have HCk := Lib.hid (fun W hb => HCL.out W e hb)
        rw [hkk.out] at HCk
        obtain ⟨ea, eb⟩ := e
        dsimp only at q0 q1 HCk
        have HBa : Hid (Below g w (wr.alloc (.cells #[.int .i64 ea, .int .i64 eb] 62))) := HB.out.alloc (Nat.le_of_lt HGr.out) _
        have BV := Lib.hid (BoxN.new wr #[.int .i64 ea, .int .i64 eb] 62)
        have HPa := Lib.hid (HP.out.below ((Below.refl wr.heap.size wr).alloc (Nat.le_refl _) (.cells #[.int .i64 ea, .int .i64 eb] 62)))
        have HU : Hid (∀ W, PRow W g dk → W.cell? ⟨g, i * 2, none⟩ = some (.int .i64 (dk.getD i (0, 0)).1) ∧ W.cell? ⟨g, i * 2 + 1, none⟩ = some (.int .i64 (dk.getD i (0, 0)).2) ∧ W.frozen? ⟨g, i * 2, none⟩ = false ∧ W.frozen? ⟨g, i * 2 + 1, none⟩ = false) := fun W h => h.2 i (by rw [HI.out.len]; exact hil)
        have hwj : wrap64 ((j : Int) + 1) = ((j + 1 : Nat) : Int) := wrapS (by omega)
        have hwi : wrap64 ((i : Int) + 1) = ((i + 1 : Nat) : Int) := wrapS (by omega)
        have hi1 : (i : Int) < (L.length : Int) := by omega
        cases kk
        · go_wp2_with (go_at_call 117; with_reducible refine (HCk.out _ HBa.out).mono ?_; rintro r w2 ⟨rfl, hb2⟩)
          go_roundw
          case rel => exact ⟨i, j + 1, dk, rfl, by first | rfl | rw [hwj], HI.out.skip HJL.out (by rw [he.out]; exact hkk.out), HPa.out.below hb2, HBa.out.trans (hb2.mono (Nat.le_trans (Nat.le_of_lt HGr.out) (by simp)))⟩
          case measure => have := HJL.out; simp only [intOf, Array.getD_eq_getD_getElem?, List.getElem?_toArray]; first | omega | (simp [intOf]; omega)
        · go_wp2_with (go_at_call 117; with_reducible refine (HCk.out _ HBa.out).mono ?_; rintro r w2 ⟨rfl, hb2⟩; have HP2 := Lib.hid (HPa.out.below hb2); have v01 := (BV.out.below hb2).c2; have u0123 := HU.out _ HP2.out; have HB2 := Lib.hid (HBa.out.trans (hb2.mono (Nat.le_trans (Nat.le_of_lt HGr.out) (by simp)))))
          go_roundw
          case rel => exact ⟨i + 1, j + 1, dk.set i (ea, eb), by first | rfl | rw [hwi], by first | rfl | rw [hwj], by have := HI.out.put HJL.out (by rw [he.out]; exact hkk.out); rw [he.out] at this; exact this, HP2.out.set (by rw [HI.out.len]; omega) ea eb, (HB2.out.setCell (p := ⟨g, i * 2, none⟩) (Nat.le_refl _) _).setCell (p := ⟨g, i * 2 + 1, none⟩) (Nat.le_refl _) _⟩
          case measure => have := HJL.out; simp only [intOf, Array.getD_eq_getD_getElem?, List.getElem?_toArray]; first | omega | (simp [intOf]; omega)
      · have hj : j = L.length := by have := HI.out.le; omega
        subst hj
        have hil : i < L.length := HI.out.lt
        have HF : Hid (dk.take i = L.filter keep) := by have := HI.out.low; rw [List.take_length] at this; exact this
        have HFL : Hid ((L.filter keep).length = i) := by unfold Hid; rw [← HF.out, List.length_take, HI.out.len]; omega
        have hcl : ∀ ty, (Builtin.clear_ #[78] ty #[.slice (some ⟨g, i * 2, none⟩) (L.length - i) (cap - i)]).run Tryz.prog wr = .ok (.tuple #[]) (wr.setCells g (i * 2) (List.replicate ((L.length - i) * 2) (.int .i64 0))) :=
          fun ty => run_clear_pairs wr ty g (i * 2) (L.length - i) (cap - i) (by omega) (fun m hm => (HP.out.some (by rw [HI.out.len]; omega)).1) (fun m hm => (HP.out.some (by rw [HI.out.len]; omega)).2)
        have hi1 : (i : Int) ≤ (L.length : Int) := by omega
        have hi2 : (i : Int) ≤ (cap : Int) := by omega
        have hi3 : (L.length : Int) ≤ (cap : Int) := by omega
        clear hlt
        go_wp2
        go_ret
        refine ⟨cap, by rw [HFL.out]; rfl, ?_, setCells_below g (Nat.le_refl _) _ _ _ HB.out⟩
        rw [← HF.out]; exact HP.out.cleared (by rw [HI.out.len]; omega)

end Go.Proofs.YtdoaniccefdkaaaGreatDoor
