/- Part of the proof. No conditions. -/
import Derived.Test.YtdoaniccefdkaaaGreatDoorZB
import Derived.Test.YtdoaniccefdkaaaGreatDoorZC
import Derived.Test.YtdoaniccefdkaaaGreatDoorZD
import Derived.Test.YtdoaniccefdkaaaGreatDoorZE
import Derived.ProofKit
import Derived.SizedLaws
import Derived.LaidMore
import Derived.OpenShut
import Derived.Deep.Slices
import Derived.Lib.RowBridge
import Derived.Shelf.Abstract
import Derived.Deep.CutRange

set_option linter.all false
/- The laws' arguments, opened: points, triangles, one triangle. -/
namespace Go.Proofs.YtdoaniccefdkaaaGreatDoor
open Go.ChangeShapes Go.WideShapes Go.ChangeAt Go.RowKit Go.Deep

section
variable {H : Type} {enc : TypeId × Value → H} {W : World} {base : Nat} {spare : Nat → Bool} {held : Bool}

theorem trod_f64 {P : Program} {t : TypeId} {fuel : Nat} {cs : List Value} {x : DataW H × List MemPlace} (ht : P.underlying t = some (.float .f64)) (h : DataW.trod enc P W base spare held fuel t cs = some x) : ∃ b, cs = [.float .f64 b] ∧ b < 2 ^ 64 := by
  cases fuel with
  | zero => simp [DataW.trod] at h
  | succ n =>
    unfold DataW.trod at h
    rw [ht] at h
    split at h <;> simp_all
    rename_i heq
    have hw := h.1.2
    rw [← heq] at hw
    simpa [Lit.wf] using hw

theorem cells_pt : Tryz.prog.cellsOf 52 = 2 := by kernel_rfl
theorem cells_f64 : Tryz.prog.cellsOf 50 = 1 := by kernel_rfl
theorem cells_tri : Tryz.prog.cellsOf 45 = 3 := by kernel_rfl

set_option maxRecDepth 100000 in
theorem trod_pt {fuel : Nat} {cs : List Value} {x : DataW H × List MemPlace} (h : DataW.trod enc Tryz.prog W base spare held fuel 52 cs = some x) : ∃ p : Pt, cs = [.float .f64 p.1, .float .f64 p.2] ∧ pt64 p := by
  obtain ⟨y0, y1, n, _, hl, h0, h1⟩ := trod_struct2 Tryz.underlying52 h
  rw [cells_pt] at hl
  match cs, hl with
  | [u, v], _ =>
    dsimp only at h0 h1
    rw [cells_f64] at h0 h1
    obtain ⟨a, ea, ha⟩ := trod_f64 Tryz.underlying50 h0
    obtain ⟨b, eb, hb⟩ := trod_f64 Tryz.underlying50 h1
    simp at ea eb
    exact ⟨(a, b), by rw [ea, eb], ha, hb⟩

set_option maxRecDepth 100000 in
theorem trod_tri {fuel : Nat} {cs : List Value} {x : DataW H × List MemPlace} (h : DataW.trod enc Tryz.prog W base spare held fuel 45 cs = some x) : ∃ t : Tri3, cs = [.int .i64 t.1, .int .i64 t.2.1, .int .i64 t.2.2] ∧ i64ok t.1 ∧ i64ok t.2.1 ∧ i64ok t.2.2 := by
  obtain ⟨xs, m, _, _, hl, hx, hi⟩ := DataW.trod_array Tryz.underlying45 h
  rw [cells_tri] at hl
  match cs, hl, xs, hx with
  | [u, v, z], _, [x0, x1, x2], _ =>
    have h0 := hi 0 (by omega)
    have h1 := hi 1 (by omega)
    have h2 := hi 2 (by omega)
    have ci : Tryz.prog.cellsOf 3 = 1 := by kernel_rfl
    rw [ci] at h0 h1 h2
    obtain ⟨a, ea, _, wa⟩ := DataW.trod_int Tryz.underlying3 h0
    obtain ⟨b, eb, _, wb⟩ := DataW.trod_int Tryz.underlying3 h1
    obtain ⟨c, ec, _, wc⟩ := DataW.trod_int Tryz.underlying3 h2
    simp at ea eb ec
    exact ⟨(a, b, c), by rw [ea, eb, ec], of_wf wa, of_wf wb, of_wf wc⟩

theorem okWide_array {P : Program} {w : World} {r : Reach} {base : Nat} {t e : TypeId} {n : Nat} {v : Value} (ht : P.underlying t = some (.array n e)) (h : Value.okWide P w r base t v) : ∃ cs, v = .agg cs := by
  simp only [Value.okWide, ht] at h
  obtain ⟨cs, h1, _⟩ := h
  exact ⟨cs, h1⟩

set_option maxRecDepth 100000 in
theorem open_tri {v : Value} {d : DataW H} {ps : List MemPlace} {P2 : Reach} {b2 : Nat} (hv : Value.okWide Tryz.prog W P2 b2 45 v) (h : DataW.Trod enc Tryz.prog W base spare held 45 v d ps) :
    ∃ t : Tri3, v = .agg #[.int .i64 t.1, .int .i64 t.2.1, .int .i64 t.2.2] ∧ i64ok t.1 ∧ i64ok t.2.1 ∧ i64ok t.2.2 := by
  obtain ⟨cs, rfl⟩ := okWide_array Tryz.underlying45 hv
  obtain ⟨fuel, hf⟩ := h
  obtain ⟨t, ht, hi⟩ := trod_tri hf
  refine ⟨t, ?_, hi⟩
  simp only [Value.cells] at ht
  congr 1
  exact Array.toList_inj.1 ht

theorem getD_map_range {α : Type} (f : Nat → α) (d : α) {n i : Nat} (h : i < n) : ((List.range n).map f).getD i d = f i := by
  rw [List.getD_eq_getElem?_getD, List.getElem?_map, List.getElem?_range h]; rfl

theorem open_points {fuel : Nat} {v : Value} {x : DataW H × List MemPlace} (h : DataW.trod enc Tryz.prog W base (fun _ => true) held fuel 22 [v] = some x) :
    ∃ ad l cap, v = .slice ad (List.length l) cap ∧ PCells W ad l ∧ ∀ p, p ∈ l → pt64 p := by
  rcases open_slice Tryz.underlying22 h with ⟨hcs, _⟩ | ⟨a, len, cap, m, n, D, Pl, hcs, _, hlc, _, hm, _, hel⟩
  · simp at hcs
    exact ⟨none, [], 0, hcs, fun hl => absurd hl (by simp), fun p hp => by simp at hp⟩
  · simp at hcs hm
    rw [cells_pt] at hel
    obtain ⟨f, hf⟩ := choose_lt (α := Pt) (n := len) (p := fun i p => W.cell? ((a.add (i * 2)).add 0) = some (.float .f64 p.1) ∧ W.cell? ((a.add (i * 2)).add 1) = some (.float .f64 p.2) ∧ pt64 p ∧ i * 2 < W.heap.size + i * 2 ∧ a.block < W.heap.size ∧ (i = 0 → a.spot = none)) fun i hi => by
      obtain ⟨cs', h1, h2⟩ := hel i (by omega)
      obtain ⟨p, rfl, hp⟩ := trod_pt h2
      obtain ⟨_, _, hc⟩ := World.cells?_some h1
      have c0 := hc 0 (by omega)
      have c1 := hc 1 (by omega)
      have hbl := World.block_lt_of_cell? _ _ c0
      have hsp := World.cell?_spot c0
      have e1 : ((a.add (i * 2)).add 0).block = a.block := by unfold Addr.add; split <;> split <;> rfl
      have e2 : i = 0 → a.spot = none := fun e => by subst e; simpa [Addr.add] using hsp
      rw [e1] at hbl
      exact ⟨p, c0, c1, hp, by omega, hbl, e2⟩
    refine ⟨some a, (List.range len).map f, cap, by simpa using hcs, fun hl => ?_, fun p hp => ?_⟩
    · simp at hl
      obtain ⟨b, off, spot⟩ := a
      have h0 := hf 0 hl
      obtain rfl : spot = none := h0.2.2.2.2.2 rfl
      refine ⟨b, off, rfl, h0.2.2.2.2.1, fun i hi => ?_⟩
      simp at hi
      obtain ⟨g0, g1, _⟩ := hf i hi
      rw [getD_map_range f (0, 0) hi]
      rw [Deep.add_add, add_plain] at g0 g1
      exact ⟨by simpa using g0, by simpa [Nat.add_assoc] using g1⟩
    · obtain ⟨i, hi, rfl⟩ := List.mem_map.1 hp
      exact (hf i (List.mem_range.1 hi)).2.2.1

theorem open_tris {fuel : Nat} {v : Value} {x : DataW H × List MemPlace} (h : DataW.trod enc Tryz.prog W base (fun _ => true) held fuel 23 [v] = some x) :
    ∃ ad l cap, v = .slice ad (List.length l) cap ∧ TCells W ad l ∧ ∀ t, t ∈ l → i64ok t.1 ∧ i64ok t.2.1 ∧ i64ok t.2.2 := by
  rcases open_slice Tryz.underlying23 h with ⟨hcs, _⟩ | ⟨a, len, cap, m, n, D, Pl, hcs, _, hlc, _, hm, _, hel⟩
  · simp at hcs
    exact ⟨none, [], 0, hcs, fun hl => absurd hl (by simp), fun p hp => by simp at hp⟩
  · simp at hcs hm
    rw [cells_tri] at hel
    obtain ⟨f, hf⟩ := choose_lt (α := Tri3) (n := len) (p := fun i p => W.cell? ((a.add (i * 3)).add 0) = some (.int .i64 p.1) ∧ W.cell? ((a.add (i * 3)).add 1) = some (.int .i64 p.2.1) ∧ W.cell? ((a.add (i * 3)).add 2) = some (.int .i64 p.2.2) ∧ (i64ok p.1 ∧ i64ok p.2.1 ∧ i64ok p.2.2) ∧ a.block < W.heap.size ∧ (i = 0 → a.spot = none)) fun i hi => by
      obtain ⟨cs', h1, h2⟩ := hel i (by omega)
      obtain ⟨p, rfl, hp⟩ := trod_tri h2
      obtain ⟨_, _, hc⟩ := World.cells?_some h1
      have c0 := hc 0 (by omega)
      have c1 := hc 1 (by omega)
      have c2 := hc 2 (by omega)
      have hbl := World.block_lt_of_cell? _ _ c0
      have hsp := World.cell?_spot c0
      have e1 : ((a.add (i * 3)).add 0).block = a.block := by unfold Addr.add; split <;> split <;> rfl
      have e2 : i = 0 → a.spot = none := fun e => by subst e; simpa [Addr.add] using hsp
      rw [e1] at hbl
      exact ⟨p, c0, c1, c2, hp, hbl, e2⟩
    refine ⟨some a, (List.range len).map f, cap, by simpa using hcs, fun hl => ?_, fun p hp => ?_⟩
    · simp at hl
      obtain ⟨b, off, spot⟩ := a
      have h0 := hf 0 hl
      obtain rfl : spot = none := h0.2.2.2.2.2 rfl
      refine ⟨b, off, rfl, h0.2.2.2.2.1, fun i hi => ?_⟩
      simp at hi
      obtain ⟨g0, g1, g2, _⟩ := hf i hi
      rw [getD_map_range f (0, 0, 0) hi]
      rw [Deep.add_add, add_plain] at g0 g1 g2
      exact ⟨by simpa using g0, by simpa [Nat.add_assoc] using g1, by simpa [Nat.add_assoc] using g2⟩
    · obtain ⟨i, hi, rfl⟩ := List.mem_map.1 hp
      exact (hf i (List.mem_range.1 hi)).2.2.2.1
end

end Go.Proofs.YtdoaniccefdkaaaGreatDoor

/- remove.ear, remove.ears plainly. -/
namespace Go.Proofs.YtdoaniccefdkaaaGreatDoor
open Go.RowKit Tvf

/-- how three corners turn -/
def turnS (M : MeshM) (a b c : Int) : Int := signI (ptAt M a) (ptAt M b) (ptAt M c)
/-- does a corner stand in the way of an ear? -/
def inEar (M : MeshM) (a b c x : Int) : Bool := decide (x ≠ a) && decide (x ≠ b) && decide (x ≠ c) && decide (0 ≤ turnS M a b x) && decide (0 ≤ turnS M b c x) && decide (0 ≤ turnS M c a x)
def earB (M : MeshM) (R : List Int) (i : Nat) : Bool :=
  decide (0 < turnS M (R.getD i 0) (R.getD ((i + 1) % R.length) 0) (R.getD ((i + 2) % R.length) 0)) && !R.any (inEar M (R.getD i 0) (R.getD ((i + 1) % R.length) 0) (R.getD ((i + 2) % R.length) 0))
/-- the first ear from a place on -/
def earFrom (M : MeshM) (R : List Int) : Nat → Nat → Nat
  | 0, i => i
  | f + 1, i => if earB M R i then i else earFrom M R f (i + 1)
def earAt (M : MeshM) (R : List Int) : Nat := earFrom M R R.length 0
def cutR (R : List Int) (i : Nat) : List Int := R.take ((i + 1) % R.length) ++ R.drop ((i + 1) % R.length + 1)
def earT (R : List Int) (i : Nat) : Tri3 := (R.getD i 0, R.getD ((i + 1) % R.length) 0, R.getD ((i + 2) % R.length) 0)
/-- the ring behind k ears, and the ears -/
structure ES where
  R : List Int
  out : List Tri3
def esStep (M : MeshM) (s : ES) : ES := ⟨cutR s.R (earAt M s.R), s.out ++ [earT s.R (earAt M s.R)]⟩
def esRun (M : MeshM) (s : ES) : Nat → ES
  | 0 => s
  | k + 1 => esStep M (esRun M s k)
/-- ears are found all along -/
def earsOk (M : MeshM) (R : List Int) : Prop := ∀ k, k < R.length - 3 → earAt M (esRun M ⟨R, []⟩ k).R < (esRun M ⟨R, []⟩ k).R.length
def earsL (M : MeshM) (R : List Int) : List Tri3 := (esRun M ⟨R, []⟩ (R.length - 3)).out ++ [((esRun M ⟨R, []⟩ (R.length - 3)).R.getD 0 0, (esRun M ⟨R, []⟩ (R.length - 3)).R.getD 1 0, (esRun M ⟨R, []⟩ (R.length - 3)).R.getD 2 0)]

theorem cutR_len {R : List Int} {i : Nat} (h : 0 < R.length) : (cutR R i).length + 1 = R.length := by
  have := Nat.mod_lt (i + 1) h
  unfold cutR
  rw [List.length_append, List.length_take, List.length_drop]
  omega
theorem esRun_len (M : MeshM) (R : List Int) : ∀ k, k ≤ R.length → (esRun M ⟨R, []⟩ k).R.length + k = R.length
  | 0, _ => rfl
  | k + 1, h => by
    have h1 := esRun_len M R k (by omega)
    have := cutR_len (R := (esRun M ⟨R, []⟩ k).R) (i := earAt M (esRun M ⟨R, []⟩ k).R) (by omega)
    show (cutR (esRun M ⟨R, []⟩ k).R _).length + (k + 1) = _
    omega
theorem esRun_out (M : MeshM) (R : List Int) : ∀ k, (esRun M ⟨R, []⟩ k).out.length = k
  | 0 => rfl
  | k + 1 => by
    show ((esRun M ⟨R, []⟩ k).out ++ [_]).length = k + 1
    rw [List.length_append, esRun_out M R k]; rfl

theorem wrapJ {k : Nat} (h : k ≤ 4000000000000) : wrap64 ((k : Int) + 1) = ((k + 1 : Nat) : Int) := by unfold wrap64; omega

end Go.Proofs.YtdoaniccefdkaaaGreatDoor

/- remove.Ring, remove.ear, remove.ears plainly. -/
namespace Go.Proofs.YtdoaniccefdkaaaGreatDoor

/-- the ring, from its first numbers on; none: [] -/
def ringGo (M : MeshM) (v : Int) (L : Nat) : Nat → List Int → List Int
  | 0, _ => []
  | f + 1, out => match M.ap v (out.getD (out.length - 1) 0) with
    | none => []
    | some c => if c = out.getD 0 0 then (if out.length < L then [] else out) else if out.contains c then [] else ringGo M v L f (out ++ [c])
def ringR (M : MeshM) (v : Int) : List Int := if (spokesL M v).length < 3 then [] else ringGo M v (spokesL M v).length (spokesL M v).length [(spokesL M v).getD 0 0]

theorem ringGo_none {M : MeshM} {v : Int} {L f : Nat} {out : List Int} (h : M.ap v (out.getD (out.length - 1) 0) = none) : ringGo M v L (f + 1) out = [] := by show (match M.ap v (out.getD (out.length - 1) 0) with | none => _ | some c => _) = _; rw [h]
theorem ringGo_some {M : MeshM} {v : Int} {L f : Nat} {out : List Int} {c : Int} (h : M.ap v (out.getD (out.length - 1) 0) = some c) : ringGo M v L (f + 1) out = if c = out.getD 0 0 then (if out.length < L then [] else out) else if out.contains c then [] else ringGo M v L f (out ++ [c]) := by show (match M.ap v (out.getD (out.length - 1) 0) with | none => _ | some c => _) = _; rw [h]

/-- a ring's triangles round a point -/
def wheelT (v : Int) (R : List Int) (i : Nat) : Tri3 := (v, R.getD i 0, R.getD ((i + 1) % R.length) 0)
def wheelL (v : Int) (R : List Int) : List Tri3 := (List.range R.length).map (wheelT v R)
def killL (M : MeshM) (l : List Tri3) : MeshM := l.foldl (fun M t => killR M t.1 t.2.1 t.2.2) M
/-- the edges of triangles, one by one -/
def edges3 (l : List Tri3) : List (Int × Int) := l.flatMap fun t => [(t.1, t.2.1), (t.2.1, t.2.2), (t.2.2, t.1)]
def fixB (M : MeshM) (v b : Int) : Bool := (M.fx (minI v b) (maxI v b)).isSome

theorem killL_snoc (M : MeshM) (l : List Tri3) (t : Tri3) : killL M (l ++ [t]) = killR (killL M l) t.1 t.2.1 t.2.2 := by unfold killL; rw [List.foldl_append]; rfl
theorem edges3_snoc (l : List Tri3) (t : Tri3) : edges3 (l ++ [t]) = edges3 l ++ [(t.1, t.2.1), (t.2.1, t.2.2), (t.2.2, t.1)] := by unfold edges3; rw [List.flatMap_append]; simp
theorem edges3_len (l : List Tri3) : (edges3 l).length = 3 * l.length := by
  induction l with
  | nil => rfl
  | cons x r ih => unfold edges3 at *; rw [List.flatMap_cons, List.length_append, ih]; simp; omega
theorem killL_P (M : MeshM) (l : List Tri3) : (killL M l).P = M.P := by
  induction l generalizing M with
  | nil => rfl
  | cons t r ih => show (killL (killR M t.1 t.2.1 t.2.2) r).P = M.P; rw [ih, killR_P]
theorem killL_sound {M : MeshM} (h : Sound M) (l : List Tri3) : Sound (killL M l) := by
  induction l generalizing M with
  | nil => exact h
  | cons t r ih => exact ih (killR_sound h _ _ _)

end Go.Proofs.YtdoaniccefdkaaaGreatDoor

/- slices.Index, Contains, IndexFunc, ContainsFunc at []int, whatever the predicate's closure lays. -/
namespace Go.Proofs.YtdoaniccefdkaaaGreatDoor
open Go.RowKit Tvf Go.Maps Go.WideMaps

/-- whole numbers in memory -/
def NCells (w : World) (ad : Option Addr) (l : List Int) : Prop :=
  0 < l.length → ∃ g, ad = some ⟨g, 0, none⟩ ∧ g < w.heap.size ∧ ∀ i, i < l.length → w.cell? ⟨g, i, none⟩ = some (.int .i64 (l.getD i 0))
theorem NCells.below {w w' : World} {ad : Option Addr} {l : List Int} (h : NCells w ad l) (hb : Below w.heap.size w w') : NCells w' ad l := by
  intro h0
  obtain ⟨g, rfl, hlt, hc⟩ := h h0
  exact ⟨g, rfl, Nat.lt_of_lt_of_le hlt hb.size, fun i hi => (hb.cell (p := ⟨g, i, none⟩) hlt).trans (hc i hi)⟩
theorem NCells.stay {w w' : World} {F : Nat → Prop} {ad : Option Addr} {l : List Int} (h : NCells w ad l) (hs : Stay F w w') (hF : ∀ g, ad = some g → ¬F g.block) : NCells w' ad l := by
  intro hl
  obtain ⟨g, rfl, hg, hc⟩ := h hl
  exact ⟨g, rfl, Nat.lt_of_lt_of_le hg hs.size, fun j hj => (World.cell?_of_block (hs.block g hg (hF _ rfl))).trans (hc j hj)⟩
theorem NCells.own {w : World} {base : Nat} {v : Value} {zs : List Int} (h : w.ownsInts base 3 .i64 v zs) : ∃ ad cap, v = .slice ad zs.length cap ∧ zs.length ≤ cap ∧ NCells w ad zs ∧ ∀ g, ad = some g → v.ownBlock = some g.block ∧ base ≤ g.block ∧ g.block < w.heap.size := by
  rcases h.1.2 with ⟨h1, h2⟩ | ⟨g, cap, cur, rfl, hb, hh, hn, hm, hs, ht⟩
  · exact ⟨none, 0, by rw [h2]; exact h1, by omega, fun hl => absurd h2 (by omega), fun g hg => by cases hg⟩
  · refine ⟨_, cap, rfl, hn, fun _ => ⟨g, rfl, (h.1.lt g rfl).2, fun i hi => ?_⟩, fun a ha => by cases ha; exact ⟨rfl, h.1.lt g rfl⟩⟩
    rw [h.1.cellAt i (by omega), List.getElem?_map, List.getElem?_eq_getElem hi]
    simp [hi]
theorem getD_memI {l : List Int} {i : Nat} (h : i < l.length) : l.getD i 0 ∈ l := by
  rw [List.getD_eq_getElem?_getD, List.getElem?_eq_getElem h]; exact List.getElem_mem h
theorem any_no {l : List Int} {p : Int → Bool} (h : ∀ j, j < l.length → p (l.getD j 0) = false) : l.any p = false := by
  rw [List.any_eq_false]
  intro x hx
  obtain ⟨i, hi, rfl⟩ := List.getElem_of_mem hx
  have := h i hi
  rw [List.getD_eq_getElem?_getD, List.getElem?_eq_getElem hi] at this
  simpa using this
theorem any_yes {l : List Int} {p : Int → Bool} {j : Nat} (hj : j < l.length) (h : p (l.getD j 0) = true) : l.any p = true := List.any_eq_true.2 ⟨_, getD_memI hj, h⟩

set_option maxRecDepth 100000 in
set_option maxHeartbeats 2000000 in
theorem idxFunc_walk {w : World} {p : Int → Bool} {g : Nat} {lb : Array Value} {ad : Option Addr} {cap : Nat} {l : List Int} (eg : ∀ args w, (callFunc g args).run Tryz.prog w = .ok (.enter g args) w) (hc : NCells w ad l) (hl : l.length ≤ 1000000000)
    (hp : ∀ W x, x ∈ l → Below w.heap.size w W → Calls Tryz.prog g (#[.int .i64 x] ++ lb) W fun e w' => e = .returned (.bool (p x)) ∧ Below W.heap.size W w') :
    Calls Tryz.prog 150 #[.slice ad l.length cap, .func (.func g) #[] lb] w fun e w' => ∃ k : Int, e = .returned (.int .i64 k) ∧ decide (0 ≤ k) = l.any p ∧ Below w.heap.size w w' := by
  have HP := Lib.hid hp
  have HC := Lib.hid hc
  have HL := Lib.hid hl
  clear hp hc hl
  go_enter Tryz.func150, Tryz.ntmps150
  go_wp2
  go_loopw [8] (fun s8 wr => ∃ kk : Nat, kk ≤ l.length ∧ s8 = .int .i64 kk ∧ Hid (Below w.heap.size w wr) ∧ Hid (∀ j, j < kk → p (l.getD j 0) = false)) (fun s8 _ => l.length - (intOf s8).toNat)
  case atStart => exact ⟨0, Nat.zero_le _, rfl, Below.refl _ _, fun j hj => absurd hj (Nat.not_lt_zero _)⟩
  case round =>
    obtain ⟨kk, hkk, rfl, HB, HA⟩ := hrel
    by_cases hlt : kk < l.length
    · have hltz : (kk : Int) < (l.length : Int) := by omega
      obtain ⟨b, rfl, hbl, hce⟩ := HC.out (by omega)
      have hcell := (HB.out.cell (p := ⟨b, kk, none⟩) hbl).trans (hce kk hlt)
      have HCk := Lib.hid (HP.out wr (l.getD kk 0) (getD_memI hlt) HB.out)
      have HLT := Lib.hid hlt
      clear hce hlt
      obtain ⟨y, hy⟩ : ∃ y, Hid (l.getD kk 0 = y) := ⟨_, rfl⟩
      obtain ⟨q, hq⟩ : ∃ q, Hid (p y = q) := ⟨_, rfl⟩
      rw [hy.out] at hcell HCk
      rw [hq.out] at HCk
      cases q
      · go_wp2_with (go_at_fn g; with_reducible refine HCk.out.mono ?_; rintro e w1 ⟨rfl, hb1⟩)
        go_roundw
        case rel => exact ⟨kk + 1, by have := HLT.out; omega, by (first | rfl | rw [wrapJ (by have := HLT.out; have := HL.out; omega)]), HB.out.trans (hb1.mono HB.out.size), fun j hj => (by rcases Nat.lt_or_ge j kk with h | h; exact HA.out j h; (have e : j = kk := by omega); rw [e, hy.out]; exact hq.out)⟩
        case measure => have := HLT.out; have := HL.out; first | (simp [intOf]; omega) | (rw [wrapJ (by omega)]; simp [intOf]; omega)
      · go_wp2_with (go_at_fn g; with_reducible refine HCk.out.mono ?_; rintro e w1 ⟨rfl, hb1⟩)
        go_ret
        exact ⟨_, rfl, by rw [any_yes HLT.out (by rw [hy.out]; exact hq.out)]; simp, HB.out.trans (hb1.mono HB.out.size)⟩
    · have e : kk = l.length := by omega
      subst e
      clear hlt hkk
      have HN := Lib.hid (any_no HA.out)
      go_wp2
      go_ret
      exact ⟨_, rfl, by rw [HN.out]; decide, HB.out⟩

set_option maxRecDepth 100000 in
set_option maxHeartbeats 2000000 in
theorem containsFunc_walk {w : World} {p : Int → Bool} {g : Nat} {lb : Array Value} {ad : Option Addr} {cap : Nat} {l : List Int} (eg : ∀ args w, (callFunc g args).run Tryz.prog w = .ok (.enter g args) w) (hc : NCells w ad l) (hl : l.length ≤ 1000000000)
    (hp : ∀ W x, x ∈ l → Below w.heap.size w W → Calls Tryz.prog g (#[.int .i64 x] ++ lb) W fun e w' => e = .returned (.bool (p x)) ∧ Below W.heap.size W w') :
    Calls Tryz.prog 131 #[.slice ad l.length cap, .func (.func g) #[] lb] w fun e w' => e = .returned (.bool (l.any p)) ∧ Below w.heap.size w w' := by
  have HI := Lib.hid (idxFunc_walk (cap := cap) eg hc hl hp)
  clear hc hp
  generalize l.any p = q at *
  go_enter Tryz.func131, Tryz.ntmps131
  go_wp2_with (go_at_call 150; with_reducible refine HI.out.mono ?_; rintro e w' ⟨k, rfl, hk, hb⟩)
  go_ret
  exact ⟨by rw [← hk]; rfl, hb⟩

set_option maxRecDepth 100000 in
set_option maxHeartbeats 2000000 in
theorem index_walk {w : World} {ad : Option Addr} {cap : Nat} {l : List Int} (v : Int) (hc : NCells w ad l) (hl : l.length ≤ 1000000000) :
    Calls Tryz.prog 176 #[.slice ad l.length cap, .int .i64 v] w fun e w' => ∃ k : Int, e = .returned (.int .i64 k) ∧ decide (0 ≤ k) = l.any (fun x => v == x) ∧ w' = w := by
  have HC := Lib.hid hc
  have HL := Lib.hid hl
  clear hc hl
  go_enter Tryz.func176, Tryz.ntmps176
  go_wp2
  go_loopw [8] (fun s8 wr => ∃ kk : Nat, kk ≤ l.length ∧ s8 = .int .i64 kk ∧ wr = w ∧ Hid (∀ j, j < kk → (v == l.getD j 0) = false)) (fun s8 _ => l.length - (intOf s8).toNat)
  case atStart => exact ⟨0, Nat.zero_le _, rfl, rfl, fun j hj => absurd hj (Nat.not_lt_zero _)⟩
  case round =>
    obtain ⟨kk, hkk, rfl, rfl, HA⟩ := hrel
    by_cases hlt : kk < l.length
    · have hltz : (kk : Int) < (l.length : Int) := by omega
      obtain ⟨b, rfl, hbl, hce⟩ := HC.out (by omega)
      have hcell := hce kk hlt
      have HLT := Lib.hid hlt
      clear hce hlt
      obtain ⟨y, hy⟩ : ∃ y, Hid (l.getD kk 0 = y) := ⟨_, rfl⟩
      rw [hy.out] at hcell
      by_cases hq : v = y
      · have HY : Hid (l.any (fun x => v == x) = true) := any_yes HLT.out (by rw [hy.out, hq]; simp)
        clear HC
        subst hq
        go_wp2
        go_ret
        exact ⟨_, rfl, by rw [HY.out]; simp, rfl⟩
      · have HN : Hid ((v == l.getD kk 0) = false) := by unfold Hid; rw [hy.out]; simpa using hq
        go_wp2
        go_roundw
        case rel => exact ⟨kk + 1, by have := HLT.out; omega, by (first | rfl | rw [wrapJ (by have := HLT.out; have := HL.out; omega)]), trivial, fun j hj => (by rcases Nat.lt_or_ge j kk with h | h; exact HA.out j h; (have e : j = kk := by omega); rw [e]; exact HN.out)⟩
        case measure => have := HLT.out; have := HL.out; first | (simp [intOf]; omega) | (rw [wrapJ (by omega)]; simp [intOf]; omega)
    · have e : kk = l.length := by omega
      subst e
      clear hlt hkk HC
      have HN : Hid (l.any (fun x => v == x) = false) := any_no HA.out
      go_wp2
      go_ret
      exact ⟨_, rfl, by rw [HN.out]; decide, rfl⟩

set_option maxRecDepth 100000 in
set_option maxHeartbeats 2000000 in
theorem contains_walk {w : World} {ad : Option Addr} {cap : Nat} {l : List Int} (v : Int) (hc : NCells w ad l) (hl : l.length ≤ 1000000000) :
    Calls Tryz.prog 135 #[.slice ad l.length cap, .int .i64 v] w fun e w' => e = .returned (.bool (l.contains v)) ∧ w' = w := by
  have HI := Lib.hid (index_walk (cap := cap) v hc hl)
  have e : l.contains v = l.any (fun x => v == x) := by rw [List.contains_eq_any_beq]
  rw [e]
  clear hc e
  generalize l.any (fun x => v == x) = q at *
  go_enter Tryz.func135, Tryz.ntmps135
  go_wp2_with (go_at_call 176; with_reducible refine HI.out.mono ?_; rintro e w' ⟨k, rfl, hk, rfl⟩)
  go_ret
  exact ⟨by rw [← hk]; rfl, rfl⟩

end Go.Proofs.YtdoaniccefdkaaaGreatDoor

/- remove.turn, ear: the walks. -/
namespace Go.Proofs.YtdoaniccefdkaaaGreatDoor
open Go.RowKit Tvf Go.Maps Go.WideMaps

set_option maxRecDepth 100000 in
set_option maxHeartbeats 1000000 in
theorem rturn_walk {w : World} {mb n : Nat} {M : MeshM} {F : Nat → Prop} (h : MeshAt w mb n M F) (h64 : ∀ p, p ∈ M.P → pt64 p) (a b c : Int) :
    Calls Tryz.prog 225 #[.pointer (some ⟨mb, 0, none⟩), .int .i64 a, .int .i64 b, .int .i64 c] w fun r w' => r = .returned (.int .i64 (turnS M a b c)) ∧ Below w.heap.size w w' := by
  have HA := Lib.hid (fun W (hb : Below w.heap.size w W) => point_walk (h.below hb) a)
  have HB := Lib.hid (fun W (hb : Below w.heap.size w W) => point_walk (h.below hb) b)
  have HC := Lib.hid (fun W (hb : Below w.heap.size w W) => point_walk (h.below hb) c)
  have HS := Lib.hid (fun W => orient_sign (ptAt M a) (ptAt M b) (ptAt M c) (by
    intro p hp
    simp only [List.mem_cons, List.not_mem_nil, or_false] at hp
    rcases hp with rfl | rfl | rfl
    · exact ptAt_64 h64 a
    · exact ptAt_64 h64 b
    · exact ptAt_64 h64 c) W)
  unfold turnS
  clear h h64
  unfold V at HS
  generalize signI (ptAt M a) (ptAt M b) (ptAt M c) = s at *
  generalize ptAt M a = pa at *
  generalize ptAt M b = pb at *
  generalize ptAt M c = pc at *
  generalize hasM M a = ka at *
  generalize hasM M b = kb at *
  generalize hasM M c = kc at *
  have b0 : Below w.heap.size w w := Below.refl _ _
  go_enter Tryz.func225, Tryz.ntmps225
  go_wp2_with (first
    | (go_at_call 48; with_reducible refine (HA.out w b0).mono ?_; rintro r w1 ⟨rfl, b1⟩)
    | (go_at_call 48; with_reducible refine (HB.out _ (b1.alloc b1.size _)).mono ?_; rintro r w2 ⟨rfl, hb2⟩; have b2 := (b1.alloc b1.size (.cells #[.float .f64 pa.1, .float .f64 pa.2] 52)).trans (hb2.mono (Nat.le_trans b1.size (by simp))); have k1 := cell_keep (new2 w1 (.float .f64 pa.1) (.float .f64 pa.2) 52).1 hb2; have k2 := cell_keep (new2 w1 (.float .f64 pa.1) (.float .f64 pa.2) 52).2 hb2)
    | (go_at_call 48; with_reducible refine (HC.out _ (b2.alloc b2.size _)).mono ?_; rintro r w3 ⟨rfl, hb3⟩; have b3 := (b2.alloc b2.size (.cells #[.float .f64 pb.1, .float .f64 pb.2] 52)).trans (hb3.mono (Nat.le_trans b2.size (by simp))); have k3 := cell_keep (new2 w2 (.float .f64 pb.1) (.float .f64 pb.2) 52).1 hb3; have k4 := cell_keep (new2 w2 (.float .f64 pb.1) (.float .f64 pb.2) 52).2 hb3; have k5 := cell_keep (cell_keep k1 ((Below.refl w2.heap.size w2).alloc (Nat.le_refl _) (.cells #[.float .f64 pb.1, .float .f64 pb.2] 52))) hb3; have k6 := cell_keep (cell_keep k2 ((Below.refl w2.heap.size w2).alloc (Nat.le_refl _) (.cells #[.float .f64 pb.1, .float .f64 pb.2] 52))) hb3; have j3 := cell_al k3; have j4 := cell_al k4; have j5 := cell_al k5; have j6 := cell_al k6)
    | (go_at_call 90; with_reducible refine (HS.out _).mono ?_; rintro r w4 ⟨rfl, hb4⟩))
  go_ret
  refine ⟨rfl, ?_⟩
  exact (b3.alloc b3.size _).trans (hb4.mono (Nat.le_trans b3.size (by simp)))

/-- the boxes that ear's closure holds -/
def EBox (w : World) (ba bb bc bm mb : Nat) (a b c : Int) : Prop :=
  w.cell? ⟨ba, 0, none⟩ = some (.int .i64 a) ∧ w.cell? ⟨bb, 0, none⟩ = some (.int .i64 b) ∧ w.cell? ⟨bc, 0, none⟩ = some (.int .i64 c) ∧ w.cell? ⟨bm, 0, none⟩ = some (.pointer (some ⟨mb, 0, none⟩))
theorem EBox.below {w w' : World} {ba bb bc bm mb : Nat} {a b c : Int} (h : EBox w ba bb bc bm mb a b c) (hb : Below w.heap.size w w') : EBox w' ba bb bc bm mb a b c :=
  ⟨cell_keep h.1 hb, cell_keep h.2.1 hb, cell_keep h.2.2.1 hb, cell_keep h.2.2.2 hb⟩

theorem EBox.o {w : World} {ba bb bc bm mb : Nat} {a b c : Int} (h : EBox w ba bb bc bm mb a b c) : w.cell? ⟨ba, 0, none⟩ = some (.int .i64 a) ∧ w.cell? ⟨bb, 0, none⟩ = some (.int .i64 b) ∧ w.cell? ⟨bc, 0, none⟩ = some (.int .i64 c) ∧ w.cell? ⟨bm, 0, none⟩ = some (.pointer (some ⟨mb, 0, none⟩)) := h

theorem inEar_xa {M : MeshM} {a b c x : Int} (h : x = a ∨ x = b ∨ x = c) : inEar M a b c x = false := by
  unfold inEar
  rcases h with rfl | rfl | rfl <;> simp
theorem inEar_1 {M : MeshM} {a b c x : Int} (h : ¬0 ≤ turnS M a b x) : inEar M a b c x = false := by unfold inEar; simp [h]
theorem inEar_2 {M : MeshM} {a b c x : Int} (h : ¬0 ≤ turnS M b c x) : inEar M a b c x = false := by unfold inEar; simp [h]
theorem inEar_3 {M : MeshM} {a b c x : Int} (h : ¬0 ≤ turnS M c a x) : inEar M a b c x = false := by unfold inEar; simp [h]
theorem inEar_4 {M : MeshM} {a b c x : Int} (h1 : x ≠ a) (h2 : x ≠ b) (h3 : x ≠ c) (h4 : 0 ≤ turnS M a b x) (h5 : 0 ≤ turnS M b c x) (h6 : 0 ≤ turnS M c a x) : inEar M a b c x = true := by unfold inEar; simp [h1, h2, h3, h4, h5, h6]

set_option maxRecDepth 100000 in
set_option maxHeartbeats 2000000 in
theorem ear1_walk {w : World} {mb n : Nat} {M : MeshM} {F : Nat → Prop} (h : MeshAt w mb n M F) (h64 : ∀ p, p ∈ M.P → pt64 p) {ba bb bc bm : Nat} {a b c : Int} (he : EBox w ba bb bc bm mb a b c) (x : Int) :
    Calls Tryz.prog 226 #[.int .i64 x, .pointer (some ⟨ba, 0, none⟩), .pointer (some ⟨bb, 0, none⟩), .pointer (some ⟨bc, 0, none⟩), .pointer (some ⟨bm, 0, none⟩)] w fun r w' => r = .returned (.bool (inEar M a b c x)) ∧ Below w.heap.size w w' := by
  have HT1 : Hid (∀ W, Below w.heap.size w W → Calls Tryz.prog 225 #[.pointer (some ⟨mb, 0, none⟩), .int .i64 a, .int .i64 b, .int .i64 x] W fun r w' => r = .returned (.int .i64 (turnS M a b x)) ∧ Below w.heap.size w w' ∧ EBox w' ba bb bc bm mb a b c) :=
    fun W hb => (rturn_walk (h.below hb) h64 a b x).mono fun _ _ h1 => ⟨h1.1, hb.trans (h1.2.mono hb.size), (he.below hb).below h1.2⟩
  have HT2 : Hid (∀ W, Below w.heap.size w W → Calls Tryz.prog 225 #[.pointer (some ⟨mb, 0, none⟩), .int .i64 b, .int .i64 c, .int .i64 x] W fun r w' => r = .returned (.int .i64 (turnS M b c x)) ∧ Below w.heap.size w w' ∧ EBox w' ba bb bc bm mb a b c) :=
    fun W hb => (rturn_walk (h.below hb) h64 b c x).mono fun _ _ h1 => ⟨h1.1, hb.trans (h1.2.mono hb.size), (he.below hb).below h1.2⟩
  have HT3 : Hid (∀ W, Below w.heap.size w W → Calls Tryz.prog 225 #[.pointer (some ⟨mb, 0, none⟩), .int .i64 c, .int .i64 a, .int .i64 x] W fun r w' => r = .returned (.int .i64 (turnS M c a x)) ∧ Below w.heap.size w w' ∧ EBox w' ba bb bc bm mb a b c) :=
    fun W hb => (rturn_walk (h.below hb) h64 c a x).mono fun _ _ h1 => ⟨h1.1, hb.trans (h1.2.mono hb.size), (he.below hb).below h1.2⟩
  have H1 := Lib.hid (@inEar_1 M a b c x)
  have H2 := Lib.hid (@inEar_2 M a b c x)
  have H3 := Lib.hid (@inEar_3 M a b c x)
  have H4 := Lib.hid (@inEar_4 M a b c x)
  have H0 := Lib.hid (@inEar_xa M a b c x)
  have b0 : Below w.heap.size w w := Below.refl _ _
  obtain ⟨c1, c2, c3, c4⟩ := he
  clear h h64
  generalize inEar M a b c x = q at *
  generalize turnS M a b x = s1 at *
  generalize turnS M b c x = s2 at *
  generalize turnS M c a x = s3 at *
  have h7 : (x = a ∨ x = b ∨ x = c) ∨ ((x ≠ a ∧ x ≠ b ∧ x ≠ c) ∧ (¬0 ≤ s1 ∨ (0 ≤ s1 ∧ ¬0 ≤ s2) ∨ (0 ≤ s1 ∧ 0 ≤ s2 ∧ ¬0 ≤ s3) ∨ (0 ≤ s1 ∧ 0 ≤ s2 ∧ 0 ≤ s3))) := by omega
  rcases h7 with hx | ⟨⟨x1, x2, x3⟩, hx | ⟨g1, hx⟩ | ⟨g1, g2, hx⟩ | ⟨g1, g2, g3⟩⟩
  · have hq := H0.out hx
    subst hq
    have hx' : x = a ∨ (x ≠ a ∧ x = b) ∨ (x ≠ a ∧ x ≠ b ∧ x = c) := by omega
    clear hx H1 H2 H3 H4
    rcases hx' with hx | ⟨e1, hx⟩ | ⟨e1, e2, hx⟩
    all_goals
      go_enter Tryz.func226, Tryz.ntmps226
      go_wp2
      go_ret
      exact ⟨by simp [*], b0⟩
  · have hq := H1.out hx
    subst hq
    go_enter Tryz.func226, Tryz.ntmps226
    go_wp2_with (first
      | (go_at_call 225; with_reducible refine (HT1.out w b0).mono ?_; rintro r w1 ⟨rfl, b1, e1⟩; obtain ⟨d1, d2, d3, d4⟩ := e1.o))
    go_ret
    exact ⟨by simp [*], b1⟩
  · have hq := H2.out hx
    subst hq
    go_enter Tryz.func226, Tryz.ntmps226
    go_wp2_with (first
      | (go_at_call 225; with_reducible refine (HT1.out w b0).mono ?_; rintro r w1 ⟨rfl, b1, e1⟩; obtain ⟨d1, d2, d3, d4⟩ := e1.o)
      | (go_at_call 225; with_reducible refine (HT2.out w1 b1).mono ?_; rintro r w2 ⟨rfl, b2, e2⟩; obtain ⟨f1, f2, f3, f4⟩ := e2.o))
    go_ret
    exact ⟨by simp [*], b2⟩
  · have hq := H3.out hx
    subst hq
    go_enter Tryz.func226, Tryz.ntmps226
    go_wp2_with (first
      | (go_at_call 225; with_reducible refine (HT1.out w b0).mono ?_; rintro r w1 ⟨rfl, b1, e1⟩; obtain ⟨d1, d2, d3, d4⟩ := e1.o)
      | (go_at_call 225; with_reducible refine (HT2.out w1 b1).mono ?_; rintro r w2 ⟨rfl, b2, e2⟩; obtain ⟨f1, f2, f3, f4⟩ := e2.o)
      | (go_at_call 225; with_reducible refine (HT3.out w2 b2).mono ?_; rintro r w3 ⟨rfl, b3, e3⟩))
    go_ret
    exact ⟨by simp [*], b3⟩
  · have hq := H4.out x1 x2 x3 g1 g2 g3
    subst hq
    go_enter Tryz.func226, Tryz.ntmps226
    go_wp2_with (first
      | (go_at_call 225; with_reducible refine (HT1.out w b0).mono ?_; rintro r w1 ⟨rfl, b1, e1⟩; obtain ⟨d1, d2, d3, d4⟩ := e1.o)
      | (go_at_call 225; with_reducible refine (HT2.out w1 b1).mono ?_; rintro r w2 ⟨rfl, b2, e2⟩; obtain ⟨f1, f2, f3, f4⟩ := e2.o)
      | (go_at_call 225; with_reducible refine (HT3.out w2 b2).mono ?_; rintro r w3 ⟨rfl, b3, e3⟩))
    go_ret
    exact ⟨by simp [*], b3⟩

theorem enters_ear1 : ∀ args w, (callFunc 226 args).run Tryz.prog w = .ok (.enter 226 args) w := enters_of Tryz.func226 (by kernel_rfl) rfl

/-- three numbers that a region reads -/
def Rd3i (W : World) (g i j k : Nat) (a b c : Int) : Prop := W.cell? ⟨g, i, none⟩ = some (.int .i64 a) ∧ W.cell? ⟨g, j, none⟩ = some (.int .i64 b) ∧ W.cell? ⟨g, k, none⟩ = some (.int .i64 c)
theorem Rd3i.alloc {W : World} {g i j k : Nat} {a b c : Int} (h : Rd3i W g i j k a b c) (o : Obj) : Rd3i (W.alloc o) g i j k a b c := ⟨cell_al h.1 o, cell_al h.2.1 o, cell_al h.2.2 o⟩
theorem Rd3i.drew {W : World} {g i j k : Nat} {a b c : Int} (h : Rd3i W g i j k a b c) : Rd3i W.drew g i j k a b c := h
theorem box3i (W : World) (T : TypeId) (x y z : Array Value) :
    BoxN T (((W.alloc (.cells x T)).alloc (.cells y T)).alloc (.cells z T)).drew W.heap.size x ∧ BoxN T (((W.alloc (.cells x T)).alloc (.cells y T)).alloc (.cells z T)).drew (W.heap.size + 1) y ∧ BoxN T (((W.alloc (.cells x T)).alloc (.cells y T)).alloc (.cells z T)).drew (W.heap.size + 1 + 1) z := by
  have e1 : (W.alloc (.cells x T)).heap.size = W.heap.size + 1 := by simp
  have e2 : ((W.alloc (.cells x T)).alloc (.cells y T)).heap.size = W.heap.size + 1 + 1 := by simp
  have h1 := ((BoxN.new W x T).al (.cells y T)).al (.cells z T)
  have h2 := (BoxN.new (W.alloc (.cells x T)) y T).al (.cells z T)
  have h3 := BoxN.new ((W.alloc (.cells x T)).alloc (.cells y T)) z T
  rw [e1] at h2
  rw [e2] at h3
  exact ⟨h1, h2, h3⟩
theorem below3i {B : Nat} {w W : World} (h : Below B w W) (hB : B ≤ W.heap.size) (x y z : Obj) : Below B w (((W.alloc x).alloc y).alloc z).drew :=
  (((h.alloc hB x).alloc (by simp; omega) y).alloc (by simp; omega) z).drew

theorem wrap_smJ {n : Int} (h0 : 0 ≤ n) (h1 : n < 1000000000000) : IntKind.i64.wrap n = n := by
  simp [IntKind.wrap, IntKind.bits, IntKind.signed]; omega

theorem mod_at {k s n : Nat} (h : k + s ≤ 10000000) : (wrap64 ((k : Int) + (s : Int))).tmod (n : Int) = (((k + s) % n : Nat) : Int) := by
  have : wrap64 ((k : Int) + (s : Int)) = ((k + s : Nat) : Int) := by unfold wrap64; omega
  rw [this]; exact (Int.ofNat_tmod _ _).symm

set_option maxRecDepth 100000 in
set_option maxHeartbeats 2000000 in
theorem ear_walk {w : World} {mb n : Nat} {M : MeshM} {F : Nat → Prop} (h : MeshAt w mb n M F) (h64 : ∀ p, p ∈ M.P → pt64 p) {R : List Int} {ad : Option Addr} {cap : Nat} (hr : NCells w ad R) (hR : R.length ≤ 1000000) {i : Nat} (hi : i < R.length) :
    Calls Tryz.prog 174 #[.pointer (some ⟨mb, 0, none⟩), .slice ad R.length cap, .int .i64 i] w fun r w' => r = .returned (.bool (earB M R i)) ∧ Below w.heap.size w w' := by
  obtain ⟨g, rfl, hg, hc⟩ := hr (by omega)
  have hn : 0 < R.length := by omega
  have hlt1 := Nat.mod_lt (i + 1) hn
  have hlt2 := Nat.mod_lt (i + 2) hn
  have hm1 : (wrap64 ((i : Int) + 1)).tmod (R.length : Int) = (((i + 1) % R.length : Nat) : Int) := mod_at (s := 1) (by omega)
  have hm2 : (wrap64 ((i : Int) + 2)).tmod (R.length : Int) = (((i + 2) % R.length : Nat) : Int) := mod_at (s := 2) (by omega)
  have HT : Hid (∀ W, Below w.heap.size w W → Calls Tryz.prog 225 #[.pointer (some ⟨mb, 0, none⟩), .int .i64 (R.getD i 0), .int .i64 (R.getD ((i + 1) % R.length) 0), .int .i64 (R.getD ((i + 2) % R.length) 0)] W fun r w' => r = .returned (.int .i64 (turnS M (R.getD i 0) (R.getD ((i + 1) % R.length) 0) (R.getD ((i + 2) % R.length) 0))) ∧ Below W.heap.size W w') :=
    fun W hb => rturn_walk (h.below hb) h64 _ _ _
  have HF : Hid (∀ W ba bb bc bm, Below w.heap.size w W → EBox W ba bb bc bm mb (R.getD i 0) (R.getD ((i + 1) % R.length) 0) (R.getD ((i + 2) % R.length) 0) →
      Calls Tryz.prog 131 #[.slice (some ⟨g, 0, none⟩) R.length cap, .func (.func 226) #[] #[.pointer (some ⟨ba, 0, none⟩), .pointer (some ⟨bb, 0, none⟩), .pointer (some ⟨bc, 0, none⟩), .pointer (some ⟨bm, 0, none⟩)]] W fun e w' => e = .returned (.bool (R.any (inEar M (R.getD i 0) (R.getD ((i + 1) % R.length) 0) (R.getD ((i + 2) % R.length) 0)))) ∧ Below W.heap.size W w') :=
    fun W ba bb bc bm hb he => containsFunc_walk (cap := cap) enters_ear1 (NCells.below (ad := some ⟨g, 0, none⟩) (fun _ => ⟨g, rfl, hg, hc⟩) hb) (by omega) fun W' x _ hb' => ear1_walk (h.below (hb.trans (hb'.mono hb.size))) h64 (he.below hb') x
  have ca := fun o => (cell_al (hc i hi) o)
  have cb := fun o => (cell_al (hc _ hlt1) o)
  have cc := fun o => (cell_al (hc _ hlt2) o)
  unfold earB
  clear h h64 hr hc
  have hlz : (i : Int) < (R.length : Int) := by omega
  have hlz1 : (((i + 1) % R.length : Nat) : Int) < (R.length : Int) := by omega
  have hlz2 : (((i + 2) % R.length : Nat) : Int) < (R.length : Int) := by omega
  have hnz : ¬(R.length : Int) = 0 := by omega
  generalize R.any (inEar M (R.getD i 0) (R.getD ((i + 1) % R.length) 0) (R.getD ((i + 2) % R.length) 0)) = q at *
  generalize turnS M (R.getD i 0) (R.getD ((i + 1) % R.length) 0) (R.getD ((i + 2) % R.length) 0) = s at *
  generalize R.getD i 0 = a at *
  generalize R.getD ((i + 1) % R.length) 0 = b at *
  generalize R.getD ((i + 2) % R.length) 0 = c at *
  generalize (i + 1) % R.length = i1 at *
  generalize (i + 2) % R.length = i2 at *
  generalize R.length = L at *
  have hw1 : IntKind.i64.wrap ((i : Int) + 1) = (i : Int) + 1 := wrap_smJ (by omega) (by omega)
  have hw2 : IntKind.i64.wrap ((i : Int) + 2) = (i : Int) + 2 := wrap_smJ (by omega) (by omega)
  have hr1 : ((i : Int) + 1).tmod (L : Int) = (i1 : Int) := by rw [← hm1]; unfold wrap64; rw [show ((i : Int) + 1 + 9223372036854775808) % 18446744073709551616 - 9223372036854775808 = (i : Int) + 1 by omega]
  have hr2 : ((i : Int) + 2).tmod (L : Int) = (i2 : Int) := by rw [← hm2]; unfold wrap64; rw [show ((i : Int) + 2 + 9223372036854775808) % 18446744073709551616 - 9223372036854775808 = (i : Int) + 2 by omega]
  have hw3 : IntKind.i64.wrap (i1 : Int) = (i1 : Int) := wrap_smJ (by omega) (by omega)
  have hw4 : IntKind.i64.wrap (i2 : Int) = (i2 : Int) := wrap_smJ (by omega) (by omega)
  have hnn : ¬L = 0 := by omega
  have hz0 : (0 : Int) ≤ (i : Int) := by omega
  have hz1 : (0 : Int) ≤ (i1 : Int) := by omega
  have hz2 : (0 : Int) ≤ (i2 : Int) := by omega
  obtain ⟨W0, hW0⟩ : ∃ W0, Hid (W0 = w.alloc (.cells #[.pointer (some ⟨mb, 0, none⟩)] 29)) := ⟨_, rfl⟩
  have R3 : Hid (Rd3i W0 g i i1 i2 a b c) := by unfold Hid; rw [hW0.out]; exact ⟨ca _, cb _, cc _⟩
  have B0 : Hid (Below w.heap.size w W0) := by unfold Hid; rw [hW0.out]; exact (Below.refl _ _).alloc (Nat.le_refl _) _
  have M0 : Hid (W0.cell? ⟨w.heap.size, 0, none⟩ = some (.pointer (some ⟨mb, 0, none⟩))) := by unfold Hid; rw [hW0.out, World.cell?_alloc_at _ _ _ _ rfl]; rfl
  clear ca cb cc
  go_enter Tryz.func174, Tryz.ntmps174
  go_upto_region 2 with fail
  rw [← hW0.out]
  go_cut [8, 9, 10] from 13 to 41 (fun s8 s9 s10 wx => ∃ p q r : Nat, s8 = .pointer (some ⟨p, 0, none⟩) ∧ s9 = .pointer (some ⟨q, 0, none⟩) ∧ s10 = .pointer (some ⟨r, 0, none⟩) ∧ Hid (BoxN 3 wx p #[.int .i64 a] ∧ BoxN 3 wx q #[.int .i64 b] ∧ BoxN 3 wx r #[.int .i64 c]) ∧ Hid (Below W0.heap.size W0 wx))
  case first =>
    go_region_held3 (fun w' => w'.cell? ⟨g, i, none⟩ = some (.int .i64 a) ∧ w'.cell? ⟨g, i1, none⟩ = some (.int .i64 b) ∧ w'.cell? ⟨g, i2, none⟩ = some (.int .i64 c))
      (first | (change Rd3i _ g i i1 i2 a b c; repeat (first | with_reducible exact R3.out | with_reducible apply Rd3i.drew | with_reducible apply Rd3i.alloc)))
      (first | fail)
    all_goals
      go_wp2_with fail
      go_meet
      refine ⟨_, _, _, rfl, rfl, rfl, ⟨?_, ?_, ?_⟩, below3i (Below.refl _ _) (Nat.le_refl _) _ _ _⟩
      · first | exact (box3i W0 _ _ _ _).1 | exact (box3i W0 _ _ _ _).2.1 | exact (box3i W0 _ _ _ _).2.2
      · first | exact (box3i W0 _ _ _ _).1 | exact (box3i W0 _ _ _ _).2.1 | exact (box3i W0 _ _ _ _).2.2
      · first | exact (box3i W0 _ _ _ _).1 | exact (box3i W0 _ _ _ _).2.1 | exact (box3i W0 _ _ _ _).2.2
  case rest =>
    obtain ⟨p, q', r, rfl, rfl, rfl, HBX, HBC⟩ := hcut
    have BW := Lib.hid (B0.out.trans (HBC.out.mono B0.out.size))
    have d1 := HBX.out.1.c 0
    have d2 := HBX.out.2.1.c 0
    have d3 := HBX.out.2.2.c 0
    have d4 := cell_keep M0.out HBC.out
    simp only [List.getElem?_toArray, List.getElem?_cons_zero] at d1 d2 d3
    have HTC := Lib.hid (HT.out wc BW.out)
    have HE4 : Hid (EBox wc p q' r w.heap.size mb a b c) := ⟨d1, d2, d3, d4⟩
    by_cases hs : 0 < s
    · have hsz : ¬s ≤ 0 := by omega
      go_wp2_with (first
        | (go_at_call 225; with_reducible refine HTC.out.mono ?_; rintro rr w1 ⟨rfl, b1⟩; have BW1 := Lib.hid (BW.out.trans (b1.mono BW.out.size)); have E1 := Lib.hid (HE4.out.below b1))
        | (go_at_call 131; with_reducible refine (HF.out _ _ _ _ _ BW1.out E1.out).mono ?_; rintro rr w2 ⟨rfl, b2⟩))
      go_ret
      exact ⟨by rw [decide_eq_true (by omega : 0 < s)]; rfl, BW1.out.trans (b2.mono BW1.out.size)⟩
    · have hsz : s ≤ 0 := by omega
      go_wp2_with (first
        | (go_at_call 225; with_reducible refine HTC.out.mono ?_; rintro rr w1 ⟨rfl, b1⟩; have BW1 := Lib.hid (BW.out.trans (b1.mono BW.out.size))))
      go_ret
      exact ⟨by rw [decide_eq_false (by omega : ¬0 < s)]; rfl, BW1.out⟩

end Go.Proofs.YtdoaniccefdkaaaGreatDoor
