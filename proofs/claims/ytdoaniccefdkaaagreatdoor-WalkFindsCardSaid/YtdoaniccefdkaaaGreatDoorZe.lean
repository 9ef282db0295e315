/- Part of the proof. No conditions. -/
import Derived.Test.YtdoaniccefdkaaaGreatDoorZO
import Derived.Test.YtdoaniccefdkaaaGreatDoorZP
import Derived.ProofKit
import Derived.SizedLaws
import Derived.LaidMore
import Derived.OpenShut
import Derived.Deep.Slices
import Derived.Lib.RowBridge

set_option linter.all false
/- (*mesh.Mesh).Points; mesh.Of at triangles that can all be made. -/
namespace Go.Proofs.YtdoaniccefdkaaaGreatDoor
open Go.RowKit Go.Maps Go.WideMaps

theorem owns_pcells {w : World} {base : Nat} {v : Value} {l : List Pt} (h : w.ownsRow base 52 2 v l.length (cellsP l)) : ∃ ad cap, v = .slice ad l.length cap ∧ PCells w ad l := by
  rcases h.2 with ⟨h1, h2⟩ | ⟨g, cap, cur, h1, h2, h3, h4, h5, h6, h7⟩
  · exact ⟨none, 0, by rw [h2]; exact h1, fun hl => absurd h2 (by omega)⟩
  · refine ⟨some ⟨g, 0, none⟩, cap, h1, fun _ => ⟨g, 0, rfl, (Array.getElem?_eq_some_iff.1 h3).1, fun i hi => ?_⟩⟩
    have hp := h
    rw [h1] at hp
    have := cellsP_at l i hi
    refine ⟨?_, ?_⟩
    · rw [hp.cellAt _ (by omega)]; simpa using this.1
    · rw [hp.cellAt _ (by omega)]; simpa using this.2

set_option maxRecDepth 100000 in
set_option maxHeartbeats 1000000 in
theorem points_mb {w0 w : World} {mb n : Nat} {M : MeshM} {F : Nat → Prop} (h : MB w0 w mb n M F) (hl : M.P.length ≤ 1048576) :
    Calls Tryz.prog 75 #[.pointer (some ⟨mb, 0, none⟩)] w fun r w' => ∃ ad cap, r = .returned (.slice ad M.P.length cap) ∧ PCells w' ad M.P ∧ Below w.heap.size w w' := by
  obtain ⟨ba, bs, bf, pv, sv, h⟩ := h.at_
  obtain ⟨ad, cap, rfl, hp⟩ := h.ptcells
  have c0 := h.c0
  have HC := Lib.hid (clone_walk M.P ad cap hl w hp)
  clear h hp
  go_enter Tryz.func75, Tryz.ntmps75
  go_wp2_with (go_at_call 88; with_reducible refine HC.out.mono ?_; rintro r w2 ⟨v', rfl, hown2, hb2⟩)
  go_ret
  obtain ⟨ad2, cap2, rfl, hp2⟩ := owns_pcells hown2
  exact ⟨ad2, cap2, rfl, hp2, hb2⟩

set_option maxRecDepth 100000 in
set_option maxHeartbeats 2000000 in
theorem of_ok (l : List Pt) (ad : Option Addr) (cap : Nat) (T : List Tri3) (at_ : Option Addr) (capt : Nat) (h64 : ∀ p, p ∈ l → pt64 p) (hk : allCode l = 0) (hl : l.length ≤ 1048576) (hT : T.length ≤ 1000000) (hok : allOk (emptyM l) T) (w : World) (hc : PCells w ad l) (hct : KCells encT w at_ T) :
    Calls Tryz.prog 23 #[.slice ad l.length cap, .slice at_ T.length capt] w fun r w' => ∃ mb F, r = .returned (.tuple #[.pointer (some ⟨mb, 0, none⟩), .int .i64 0]) ∧ MB w w' mb (3 * T.length) (foldM (emptyM l) T) F := by
  have HN := Lib.hid (new_mb l ad cap h64 hk hl w w (Below.refl _ _) hc)
  have HTC := Lib.hid hct
  have H64 := Lib.hid h64
  have HL := Lib.hid hl
  have HTL := Lib.hid hT
  have HOK := Lib.hid (allOk_at T _ hok)
  clear h64 hk hl hc hct hT hok
  go_enter Tryz.func23, Tryz.ntmps23
  go_wp2_with (go_at_call 27; refine HN.out.mono ?_; rintro r w1 ⟨mb, F, rfl, hm1, _, _⟩)
  have HM1 := Lib.hid hm1
  clear hm1
  go_loopw [21] (fun s21 wr => ∃ (k : Nat) (F : Nat → Prop), k ≤ T.length ∧ s21 = .int .i64 k ∧ Hid (MB w wr mb (3 * k) (foldM (emptyM l) (T.take k)) F)) (fun i _ => T.length - (intOf i).toNat)
  case atStart => exact ⟨0, F, Nat.zero_le _, rfl, HM1.out⟩
  case round =>
    obtain ⟨k, G, hk, rfl, HM⟩ := hrel
    by_cases hlt : k < T.length
    · obtain ⟨g, rfl, _, q0, q1, q2⟩ := (HTC.out.below HM.out.keep).tri hlt
      have HTS := Lib.hid (take_snocT T k hlt)
      have hco := HOK.out k hlt
      have e : T[k] = T.getD k (0, 0, 0) := by rw [List.getD_eq_getElem?_getD, List.getElem?_eq_getElem hlt]; rfl
      rw [e] at hco
      clear e
      generalize T.getD k (0, 0, 0) = t at *
      obtain ⟨ta, tb, tc⟩ := t
      dsimp only at q0 q1 q2 hco
      have HMK : Hid (∀ v, Calls Tryz.prog 28 #[.pointer (some ⟨mb, 0, none⟩), .int .i64 ta, .int .i64 tb, .int .i64 tc] (wr.alloc v) fun r w2 => r = .returned (.int .i64 0) ∧ Hid (∃ F2, MB w w2 mb (3 * (k + 1)) (foldM (emptyM l) (T.take (k + 1))) F2)) := by
        intro v
        refine (make_mb (HM.out.below ((Below.refl _ wr).alloc (Nat.le_refl _) v)) (by rw [foldM_P]; exact H64.out) (by rw [foldM_P]; exact HL.out) (by have := HTL.out; omega) ta tb tc).mono ?_
        rintro r w2 ⟨rfl, hm2, _⟩
        refine ⟨by rw [hco], Fx G (wr.alloc v) w2, ?_⟩
        rw [HTS.out, foldM_snoc]
        exact hm2
      clear hco
      go_wp2_with (go_at_call 28; refine (HMK.out _).mono ?_; rintro r w2 ⟨rfl, HM2⟩)
      clear q0 q1 q2
      go_roundw
      case rel =>
        obtain ⟨F2, hm2⟩ := HM2.out
        exact ⟨k + 1, F2, by omega, (by have := HTL.out; first | rfl | rw [wrapS (by omega)]), hm2⟩
      case measure => have := HTL.out; first | (simp [intOf]; omega) | (rw [wrapS (by omega)]; simp [intOf]; omega)
    · have e : k = T.length := by omega
      subst e
      rw [List.take_length] at HM
      clear hlt hk
      go_wp2
      go_ret2
      exact ⟨mb, G, rfl, HM.out⟩

end Go.Proofs.YtdoaniccefdkaaaGreatDoor

/- The laws' arguments, opened: points, triangles, one triangle. -/
namespace Go.Proofs.YtdoaniccefdkaaaGreatDoor
open Go.ChangeShapes Go.WideShapes Go.ChangeAt Go.RowKit Go.Deep

section
variable {H : Type} {enc : TypeId × Value → H} {W : World} {base : Nat} {spare : Nat → Bool} {held : Bool}

theorem trod_f64 {P : Program} {t : TypeId} {fuel : Nat} {cs : List Value} {x : DataW H × List MemPlace} (ht : P.underlying t = some (.float .f64)) (h : DataW.trod enc P W base spare held fuel t cs = some x) : ∃ b, cs = [.float .f64 b] ∧ b < 2 ^ 64 := by
  cases fuel with
  | zero => simp [DataW.trod] at h
  | succ n =>
    unfold DataW.trod at h
    rw [ht] at h
    split at h <;> simp_all
    rename_i heq
    have hw := h.1.2
    rw [← heq] at hw
    simpa [Lit.wf] using hw

theorem cells_pt : Tryz.prog.cellsOf 52 = 2 := by kernel_rfl
theorem cells_f64 : Tryz.prog.cellsOf 50 = 1 := by kernel_rfl
theorem cells_tri : Tryz.prog.cellsOf 45 = 3 := by kernel_rfl

set_option maxRecDepth 100000 in
theorem trod_pt {fuel : Nat} {cs : List Value} {x : DataW H × List MemPlace} (h : DataW.trod enc Tryz.prog W base spare held fuel 52 cs = some x) : ∃ p : Pt, cs = [.float .f64 p.1, .float .f64 p.2] ∧ pt64 p := by
  obtain ⟨y0, y1, n, _, hl, h0, h1⟩ := trod_struct2 Tryz.underlying52 h
  rw [cells_pt] at hl
  match cs, hl with
  | [u, v], _ =>
    dsimp only at h0 h1
    rw [cells_f64] at h0 h1
    obtain ⟨a, ea, ha⟩ := trod_f64 Tryz.underlying50 h0
    obtain ⟨b, eb, hb⟩ := trod_f64 Tryz.underlying50 h1
    simp at ea eb
    exact ⟨(a, b), by rw [ea, eb], ha, hb⟩

set_option maxRecDepth 100000 in
theorem trod_tri {fuel : Nat} {cs : List Value} {x : DataW H × List MemPlace} (h : DataW.trod enc Tryz.prog W base spare held fuel 45 cs = some x) : ∃ t : Tri3, cs = [.int .i64 t.1, .int .i64 t.2.1, .int .i64 t.2.2] ∧ i64ok t.1 ∧ i64ok t.2.1 ∧ i64ok t.2.2 := by
  obtain ⟨xs, m, _, _, hl, hx, hi⟩ := DataW.trod_array Tryz.underlying45 h
  rw [cells_tri] at hl
  match cs, hl, xs, hx with
  | [u, v, z], _, [x0, x1, x2], _ =>
    have h0 := hi 0 (by omega)
    have h1 := hi 1 (by omega)
    have h2 := hi 2 (by omega)
    have ci : Tryz.prog.cellsOf 3 = 1 := by kernel_rfl
    rw [ci] at h0 h1 h2
    obtain ⟨a, ea, _, wa⟩ := DataW.trod_int Tryz.underlying3 h0
    obtain ⟨b, eb, _, wb⟩ := DataW.trod_int Tryz.underlying3 h1
    obtain ⟨c, ec, _, wc⟩ := DataW.trod_int Tryz.underlying3 h2
    simp at ea eb ec
    exact ⟨(a, b, c), by rw [ea, eb, ec], of_wf wa, of_wf wb, of_wf wc⟩

theorem okWide_array {P : Program} {w : World} {r : Reach} {base : Nat} {t e : TypeId} {n : Nat} {v : Value} (ht : P.underlying t = some (.array n e)) (h : Value.okWide P w r base t v) : ∃ cs, v = .agg cs := by
  simp only [Value.okWide, ht] at h
  obtain ⟨cs, h1, _⟩ := h
  exact ⟨cs, h1⟩

set_option maxRecDepth 100000 in
theorem open_tri {v : Value} {d : DataW H} {ps : List MemPlace} {P2 : Reach} {b2 : Nat} (hv : Value.okWide Tryz.prog W P2 b2 45 v) (h : DataW.Trod enc Tryz.prog W base spare held 45 v d ps) :
    ∃ t : Tri3, v = .agg #[.int .i64 t.1, .int .i64 t.2.1, .int .i64 t.2.2] ∧ i64ok t.1 ∧ i64ok t.2.1 ∧ i64ok t.2.2 := by
  obtain ⟨cs, rfl⟩ := okWide_array Tryz.underlying45 hv
  obtain ⟨fuel, hf⟩ := h
  obtain ⟨t, ht, hi⟩ := trod_tri hf
  refine ⟨t, ?_, hi⟩
  simp only [Value.cells] at ht
  congr 1
  exact Array.toList_inj.1 ht

theorem getD_map_range {α : Type} (f : Nat → α) (d : α) {n i : Nat} (h : i < n) : ((List.range n).map f).getD i d = f i := by
  rw [List.getD_eq_getElem?_getD, List.getElem?_map, List.getElem?_range h]; rfl

theorem open_points {fuel : Nat} {v : Value} {x : DataW H × List MemPlace} (h : DataW.trod enc Tryz.prog W base (fun _ => true) held fuel 22 [v] = some x) :
    ∃ ad l cap, v = .slice ad (List.length l) cap ∧ PCells W ad l ∧ ∀ p, p ∈ l → pt64 p := by
  rcases open_slice Tryz.underlying22 h with ⟨hcs, _⟩ | ⟨a, len, cap, m, n, D, Pl, hcs, _, hlc, _, hm, _, hel⟩
  · simp at hcs
    exact ⟨none, [], 0, hcs, fun hl => absurd hl (by simp), fun p hp => by simp at hp⟩
  · simp at hcs hm
    rw [cells_pt] at hel
    obtain ⟨f, hf⟩ := choose_lt (α := Pt) (n := len) (p := fun i p => W.cell? ((a.add (i * 2)).add 0) = some (.float .f64 p.1) ∧ W.cell? ((a.add (i * 2)).add 1) = some (.float .f64 p.2) ∧ pt64 p ∧ i * 2 < W.heap.size + i * 2 ∧ a.block < W.heap.size ∧ (i = 0 → a.spot = none)) fun i hi => by
      obtain ⟨cs', h1, h2⟩ := hel i (by omega)
      obtain ⟨p, rfl, hp⟩ := trod_pt h2
      obtain ⟨_, _, hc⟩ := World.cells?_some h1
      have c0 := hc 0 (by omega)
      have c1 := hc 1 (by omega)
      have hbl := World.block_lt_of_cell? _ _ c0
      have hsp := World.cell?_spot c0
      have e1 : ((a.add (i * 2)).add 0).block = a.block := by unfold Addr.add; split <;> split <;> rfl
      have e2 : i = 0 → a.spot = none := fun e => by subst e; simpa [Addr.add] using hsp
      rw [e1] at hbl
      exact ⟨p, c0, c1, hp, by omega, hbl, e2⟩
    refine ⟨some a, (List.range len).map f, cap, by simpa using hcs, fun hl => ?_, fun p hp => ?_⟩
    · simp at hl
      obtain ⟨b, off, spot⟩ := a
      have h0 := hf 0 hl
      obtain rfl : spot = none := h0.2.2.2.2.2 rfl
      refine ⟨b, off, rfl, h0.2.2.2.2.1, fun i hi => ?_⟩
      simp at hi
      obtain ⟨g0, g1, _⟩ := hf i hi
      rw [getD_map_range f (0, 0) hi]
      rw [Deep.add_add, add_plain] at g0 g1
      exact ⟨by simpa using g0, by simpa [Nat.add_assoc] using g1⟩
    · obtain ⟨i, hi, rfl⟩ := List.mem_map.1 hp
      exact (hf i (List.mem_range.1 hi)).2.2.1

theorem open_tris {fuel : Nat} {v : Value} {x : DataW H × List MemPlace} (h : DataW.trod enc Tryz.prog W base (fun _ => true) held fuel 23 [v] = some x) :
    ∃ ad l cap, v = .slice ad (List.length l) cap ∧ TCells W ad l ∧ ∀ t, t ∈ l → i64ok t.1 ∧ i64ok t.2.1 ∧ i64ok t.2.2 := by
  rcases open_slice Tryz.underlying23 h with ⟨hcs, _⟩ | ⟨a, len, cap, m, n, D, Pl, hcs, _, hlc, _, hm, _, hel⟩
  · simp at hcs
    exact ⟨none, [], 0, hcs, fun hl => absurd hl (by simp), fun p hp => by simp at hp⟩
  · simp at hcs hm
    rw [cells_tri] at hel
    obtain ⟨f, hf⟩ := choose_lt (α := Tri3) (n := len) (p := fun i p => W.cell? ((a.add (i * 3)).add 0) = some (.int .i64 p.1) ∧ W.cell? ((a.add (i * 3)).add 1) = some (.int .i64 p.2.1) ∧ W.cell? ((a.add (i * 3)).add 2) = some (.int .i64 p.2.2) ∧ (i64ok p.1 ∧ i64ok p.2.1 ∧ i64ok p.2.2) ∧ a.block < W.heap.size ∧ (i = 0 → a.spot = none)) fun i hi => by
      obtain ⟨cs', h1, h2⟩ := hel i (by omega)
      obtain ⟨p, rfl, hp⟩ := trod_tri h2
      obtain ⟨_, _, hc⟩ := World.cells?_some h1
      have c0 := hc 0 (by omega)
      have c1 := hc 1 (by omega)
      have c2 := hc 2 (by omega)
      have hbl := World.block_lt_of_cell? _ _ c0
      have hsp := World.cell?_spot c0
      have e1 : ((a.add (i * 3)).add 0).block = a.block := by unfold Addr.add; split <;> split <;> rfl
      have e2 : i = 0 → a.spot = none := fun e => by subst e; simpa [Addr.add] using hsp
      rw [e1] at hbl
      exact ⟨p, c0, c1, c2, hp, hbl, e2⟩
    refine ⟨some a, (List.range len).map f, cap, by simpa using hcs, fun hl => ?_, fun p hp => ?_⟩
    · simp at hl
      obtain ⟨b, off, spot⟩ := a
      have h0 := hf 0 hl
      obtain rfl : spot = none := h0.2.2.2.2.2 rfl
      refine ⟨b, off, rfl, h0.2.2.2.2.1, fun i hi => ?_⟩
      simp at hi
      obtain ⟨g0, g1, g2, _⟩ := hf i hi
      rw [getD_map_range f (0, 0, 0) hi]
      rw [Deep.add_add, add_plain] at g0 g1 g2
      exact ⟨by simpa using g0, by simpa [Nat.add_assoc] using g1, by simpa [Nat.add_assoc] using g2⟩
    · obtain ⟨i, hi, rfl⟩ := List.mem_map.1 hp
      exact (hf i (List.mem_range.1 hi)).2.2.2.1
end

end Go.Proofs.YtdoaniccefdkaaaGreatDoor
