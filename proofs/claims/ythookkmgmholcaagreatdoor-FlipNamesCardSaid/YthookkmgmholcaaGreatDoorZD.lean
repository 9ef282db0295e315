/- The arguments, opened; arrays held against each other. No conditions. -/
import Derived.Test.YthookkmgmholcaaGreatDoorZC
import Derived.ProofKit
import Derived.SizedLaws
import Derived.LaidMore
import Derived.OpenShut
import Derived.Deep.Slices
import Derived.Lib.RowBridge
import Derived.ChangeKeysEq

/- The laws' arguments, opened: points, triangles, one triangle. -/
namespace Go.Proofs.YthookkmgmholcaaGreatDoor
open Go.ChangeShapes Go.WideShapes Go.ChangeAt Go.RowKit Go.Deep

section
variable {H : Type} {enc : TypeId × Value → H} {W : World} {base : Nat} {spare : Nat → Bool} {held : Bool}

theorem trod_f64 {P : Program} {t : TypeId} {fuel : Nat} {cs : List Value} {x : DataW H × List MemPlace} (ht : P.underlying t = some (.float .f64)) (h : DataW.trod enc P W base spare held fuel t cs = some x) : ∃ b, cs = [.float .f64 b] ∧ b < 2 ^ 64 := by
  cases fuel with
  | zero => simp [DataW.trod] at h
  | succ n =>
    unfold DataW.trod at h
    rw [ht] at h
    split at h <;> simp_all
    rename_i heq
    have hw := h.1.2
    rw [← heq] at hw
    simpa [Lit.wf] using hw

theorem cells_pt : Tryz.prog.cellsOf 25 = 2 := by kernel_rfl
theorem cells_f64 : Tryz.prog.cellsOf 23 = 1 := by kernel_rfl
theorem cells_tri : Tryz.prog.cellsOf 32 = 3 := by kernel_rfl

set_option maxRecDepth 100000 in
theorem trod_pt {fuel : Nat} {cs : List Value} {x : DataW H × List MemPlace} (h : DataW.trod enc Tryz.prog W base spare held fuel 25 cs = some x) : ∃ p : Pt, cs = [.float .f64 p.1, .float .f64 p.2] ∧ pt64 p := by
  obtain ⟨y0, y1, n, _, hl, h0, h1⟩ := trod_struct2 Tryz.underlying25 h
  rw [cells_pt] at hl
  match cs, hl with
  | [u, v], _ =>
    dsimp only at h0 h1
    rw [cells_f64] at h0 h1
    obtain ⟨a, ea, ha⟩ := trod_f64 Tryz.underlying23 h0
    obtain ⟨b, eb, hb⟩ := trod_f64 Tryz.underlying23 h1
    simp at ea eb
    exact ⟨(a, b), by rw [ea, eb], ha, hb⟩

set_option maxRecDepth 100000 in
theorem trod_tri {fuel : Nat} {cs : List Value} {x : DataW H × List MemPlace} (h : DataW.trod enc Tryz.prog W base spare held fuel 32 cs = some x) : ∃ t : Tri3, cs = [.int .i64 t.1, .int .i64 t.2.1, .int .i64 t.2.2] ∧ i64ok t.1 ∧ i64ok t.2.1 ∧ i64ok t.2.2 := by
  obtain ⟨xs, m, _, _, hl, hx, hi⟩ := DataW.trod_array Tryz.underlying32 h
  rw [cells_tri] at hl
  match cs, hl, xs, hx with
  | [u, v, z], _, [x0, x1, x2], _ =>
    have h0 := hi 0 (by omega)
    have h1 := hi 1 (by omega)
    have h2 := hi 2 (by omega)
    have ci : Tryz.prog.cellsOf 3 = 1 := by kernel_rfl
    rw [ci] at h0 h1 h2
    obtain ⟨a, ea, _, wa⟩ := DataW.trod_int Tryz.underlying3 h0
    obtain ⟨b, eb, _, wb⟩ := DataW.trod_int Tryz.underlying3 h1
    obtain ⟨c, ec, _, wc⟩ := DataW.trod_int Tryz.underlying3 h2
    simp at ea eb ec
    exact ⟨(a, b, c), by rw [ea, eb, ec], of_wf wa, of_wf wb, of_wf wc⟩

theorem okWide_array {P : Program} {w : World} {r : Reach} {base : Nat} {t e : TypeId} {n : Nat} {v : Value} (ht : P.underlying t = some (.array n e)) (h : Value.okWide P w r base t v) : ∃ cs, v = .agg cs := by
  simp only [Value.okWide, ht] at h
  obtain ⟨cs, h1, _⟩ := h
  exact ⟨cs, h1⟩

set_option maxRecDepth 100000 in
theorem open_tri {v : Value} {d : DataW H} {ps : List MemPlace} {P2 : Reach} {b2 : Nat} (hv : Value.okWide Tryz.prog W P2 b2 32 v) (h : DataW.Trod enc Tryz.prog W base spare held 32 v d ps) :
    ∃ t : Tri3, v = .agg #[.int .i64 t.1, .int .i64 t.2.1, .int .i64 t.2.2] ∧ i64ok t.1 ∧ i64ok t.2.1 ∧ i64ok t.2.2 := by
  obtain ⟨cs, rfl⟩ := okWide_array Tryz.underlying32 hv
  obtain ⟨fuel, hf⟩ := h
  obtain ⟨t, ht, hi⟩ := trod_tri hf
  refine ⟨t, ?_, hi⟩
  simp only [Value.cells] at ht
  congr 1
  exact Array.toList_inj.1 ht

theorem getD_map_range {α : Type} (f : Nat → α) (d : α) {n i : Nat} (h : i < n) : ((List.range n).map f).getD i d = f i := by
  rw [List.getD_eq_getElem?_getD, List.getElem?_map, List.getElem?_range h]; rfl

theorem open_points {fuel : Nat} {v : Value} {x : DataW H × List MemPlace} (h : DataW.trod enc Tryz.prog W base (fun _ => true) held fuel 26 [v] = some x) :
    ∃ ad l cap, v = .slice ad (List.length l) cap ∧ PCells W ad l ∧ ∀ p, p ∈ l → pt64 p := by
  rcases open_slice Tryz.underlying26 h with ⟨hcs, _⟩ | ⟨a, len, cap, m, n, D, Pl, hcs, _, hlc, _, hm, _, hel⟩
  · simp at hcs
    exact ⟨none, [], 0, hcs, fun hl => absurd hl (by simp), fun p hp => by simp at hp⟩
  · simp at hcs hm
    rw [cells_pt] at hel
    obtain ⟨f, hf⟩ := choose_lt (α := Pt) (n := len) (p := fun i p => W.cell? ((a.add (i * 2)).add 0) = some (.float .f64 p.1) ∧ W.cell? ((a.add (i * 2)).add 1) = some (.float .f64 p.2) ∧ pt64 p ∧ i * 2 < W.heap.size + i * 2 ∧ a.block < W.heap.size ∧ (i = 0 → a.spot = none)) fun i hi => by
      obtain ⟨cs', h1, h2⟩ := hel i (by omega)
      obtain ⟨p, rfl, hp⟩ := trod_pt h2
      obtain ⟨_, _, hc⟩ := World.cells?_some h1
      have c0 := hc 0 (by omega)
      have c1 := hc 1 (by omega)
      have hbl := World.block_lt_of_cell? _ _ c0
      have hsp := World.cell?_spot c0
      have e1 : ((a.add (i * 2)).add 0).block = a.block := by unfold Addr.add; split <;> split <;> rfl
      have e2 : i = 0 → a.spot = none := fun e => by subst e; simpa [Addr.add] using hsp
      rw [e1] at hbl
      exact ⟨p, c0, c1, hp, by omega, hbl, e2⟩
    refine ⟨some a, (List.range len).map f, cap, by simpa using hcs, fun hl => ?_, fun p hp => ?_⟩
    · simp at hl
      obtain ⟨b, off, spot⟩ := a
      have h0 := hf 0 hl
      obtain rfl : spot = none := h0.2.2.2.2.2 rfl
      refine ⟨b, off, rfl, h0.2.2.2.2.1, fun i hi => ?_⟩
      simp at hi
      obtain ⟨g0, g1, _⟩ := hf i hi
      rw [getD_map_range f (0, 0) hi]
      rw [Deep.add_add, add_plain] at g0 g1
      exact ⟨by simpa using g0, by simpa [Nat.add_assoc] using g1⟩
    · obtain ⟨i, hi, rfl⟩ := List.mem_map.1 hp
      exact (hf i (List.mem_range.1 hi)).2.2.1

theorem open_tris {fuel : Nat} {v : Value} {x : DataW H × List MemPlace} (h : DataW.trod enc Tryz.prog W base (fun _ => true) held fuel 33 [v] = some x) :
    ∃ ad l cap, v = .slice ad (List.length l) cap ∧ TCells W ad l ∧ ∀ t, t ∈ l → i64ok t.1 ∧ i64ok t.2.1 ∧ i64ok t.2.2 := by
  rcases open_slice Tryz.underlying33 h with ⟨hcs, _⟩ | ⟨a, len, cap, m, n, D, Pl, hcs, _, hlc, _, hm, _, hel⟩
  · simp at hcs
    exact ⟨none, [], 0, hcs, fun hl => absurd hl (by simp), fun p hp => by simp at hp⟩
  · simp at hcs hm
    rw [cells_tri] at hel
    obtain ⟨f, hf⟩ := choose_lt (α := Tri3) (n := len) (p := fun i p => W.cell? ((a.add (i * 3)).add 0) = some (.int .i64 p.1) ∧ W.cell? ((a.add (i * 3)).add 1) = some (.int .i64 p.2.1) ∧ W.cell? ((a.add (i * 3)).add 2) = some (.int .i64 p.2.2) ∧ (i64ok p.1 ∧ i64ok p.2.1 ∧ i64ok p.2.2) ∧ a.block < W.heap.size ∧ (i = 0 → a.spot = none)) fun i hi => by
      obtain ⟨cs', h1, h2⟩ := hel i (by omega)
      obtain ⟨p, rfl, hp⟩ := trod_tri h2
      obtain ⟨_, _, hc⟩ := World.cells?_some h1
      have c0 := hc 0 (by omega)
      have c1 := hc 1 (by omega)
      have c2 := hc 2 (by omega)
      have hbl := World.block_lt_of_cell? _ _ c0
      have hsp := World.cell?_spot c0
      have e1 : ((a.add (i * 3)).add 0).block = a.block := by unfold Addr.add; split <;> split <;> rfl
      have e2 : i = 0 → a.spot = none := fun e => by subst e; simpa [Addr.add] using hsp
      rw [e1] at hbl
      exact ⟨p, c0, c1, c2, hp, hbl, e2⟩
    refine ⟨some a, (List.range len).map f, cap, by simpa using hcs, fun hl => ?_, fun p hp => ?_⟩
    · simp at hl
      obtain ⟨b, off, spot⟩ := a
      have h0 := hf 0 hl
      obtain rfl : spot = none := h0.2.2.2.2.2 rfl
      refine ⟨b, off, rfl, h0.2.2.2.2.1, fun i hi => ?_⟩
      simp at hi
      obtain ⟨g0, g1, g2, _⟩ := hf i hi
      rw [getD_map_range f (0, 0, 0) hi]
      rw [Deep.add_add, add_plain] at g0 g1 g2
      exact ⟨by simpa using g0, by simpa [Nat.add_assoc] using g1, by simpa [Nat.add_assoc] using g2⟩
    · obtain ⟨i, hi, rfl⟩ := List.mem_map.1 hp
      exact (hf i (List.mem_range.1 hi)).2.2.2.1
end

end Go.Proofs.YthookkmgmholcaaGreatDoor

/- Arrays held against each other; trivetref15.SameTris, SamePairs at one list twice. -/
namespace Go.Proofs.YthookkmgmholcaaGreatDoor
open Go.RowKit Go.Maps Go.WideMaps

theorem run_item (a b : Int) (d : Nat) (w : World) : (Op.equalIn (d + 1) 3 (.int .i64 a) (.int .i64 b)).run Tryz.prog w = .ok (a == b) w := run_equalIn_int w d 3 .i64 .i64 a b Tryz.underlying3
theorem run_item9 (a b : Int) (w : World) : (Op.equalIn 9999 3 (.int .i64 a) (.int .i64 b)).run Tryz.prog w = .ok (a == b) w := run_item a b 9998 w
theorem part3_0 (a b c : Int) (w : World) : (part 3 #[.int .i64 a, .int .i64 b, .int .i64 c] 0).run Tryz.prog w = .ok (.int .i64 a) w := by kernel_rfl
theorem part3_1 (a b c : Int) (w : World) : (part 3 #[.int .i64 a, .int .i64 b, .int .i64 c] 1).run Tryz.prog w = .ok (.int .i64 b) w := by kernel_rfl
theorem part3_2 (a b c : Int) (w : World) : (part 3 #[.int .i64 a, .int .i64 b, .int .i64 c] 2).run Tryz.prog w = .ok (.int .i64 c) w := by kernel_rfl
theorem part2_0 (a b : Int) (w : World) : (part 3 #[.int .i64 a, .int .i64 b] 0).run Tryz.prog w = .ok (.int .i64 a) w := by kernel_rfl
theorem part2_1 (a b : Int) (w : World) : (part 3 #[.int .i64 a, .int .i64 b] 1).run Tryz.prog w = .ok (.int .i64 b) w := by kernel_rfl
theorem cells_int : Tryz.prog.cellsOf 3 = 1 := by kernel_rfl

theorem equalT (a b c x y z : Int) (w : World) : (Op.equalIn 10000 32 (.agg #[.int .i64 a, .int .i64 b, .int .i64 c]) (.agg #[.int .i64 x, .int .i64 y, .int .i64 z])).run Tryz.prog w = .ok (a == x && (b == y && c == z)) w := by
  obtain ⟨i0, hi, hz0, hz1, hz2⟩ := info_parts infoInt
  rw [show (10000 : Nat) = 9998 + 1 + 1 from rfl, run_equalIn_array w (9998 + 1) _ _ Tryz.underlying32 hi, cells_int]
  simp only [List.range, List.range.loop, Op.eqItems, Sem.run_bind, Nat.mul_one, part3_0, Result.andThen_ok, run_item]
  cases h1 : a == x <;> cases h2 : b == y <;> cases h3 : c == z <;> simp [part3_1, part3_2, run_item9, h2, h3]
theorem equalP (a b x y : Int) (w : World) : (Op.equalIn 10000 54 (.agg #[.int .i64 a, .int .i64 b]) (.agg #[.int .i64 x, .int .i64 y])).run Tryz.prog w = .ok (a == x && b == y) w := by
  obtain ⟨i0, hi, hz0, hz1, hz2⟩ := info_parts infoInt
  rw [show (10000 : Nat) = 9998 + 1 + 1 from rfl, run_equalIn_array w (9998 + 1) _ _ Tryz.underlying54 hi, cells_int]
  simp only [List.range, List.range.loop, Op.eqItems, Sem.run_bind, Nat.mul_one, part2_0, Result.andThen_ok, run_item]
  cases h1 : a == x <;> cases h2 : b == y <;> simp [part2_1, run_item9, h2]

theorem eqlT (a b c x y z : Int) (w : World) : (binOp .eql 32 (.agg #[.int .i64 a, .int .i64 b, .int .i64 c]) (.agg #[.int .i64 x, .int .i64 y, .int .i64 z])).run Tryz.prog w = .ok (.bool (a == x && (b == y && c == z))) w := by
  rw [run_eql_struct, equalT]; rfl
theorem neqT (a b c x y z : Int) (w : World) : (binOp .neq 32 (.agg #[.int .i64 a, .int .i64 b, .int .i64 c]) (.agg #[.int .i64 x, .int .i64 y, .int .i64 z])).run Tryz.prog w = .ok (.bool !(a == x && (b == y && c == z))) w := by
  rw [run_neq_struct, equalT]; rfl
theorem neqP (a b x y : Int) (w : World) : (binOp .neq 54 (.agg #[.int .i64 a, .int .i64 b]) (.agg #[.int .i64 x, .int .i64 y])).run Tryz.prog w = .ok (.bool !(a == x && b == y)) w := by
  rw [run_neq_struct, equalP]; rfl
theorem neqT_self (a b c : Int) (w : World) : (binOp .neq 32 (.agg #[.int .i64 a, .int .i64 b, .int .i64 c]) (.agg #[.int .i64 a, .int .i64 b, .int .i64 c])).run Tryz.prog w = .ok (.bool false) w := by rw [neqT]; simp
theorem neqP_self (a b : Int) (w : World) : (binOp .neq 54 (.agg #[.int .i64 a, .int .i64 b]) (.agg #[.int .i64 a, .int .i64 b])).run Tryz.prog w = .ok (.bool false) w := by rw [neqP]; simp

theorem MB.from {w0 w1 w : World} {mb n : Nat} {M : MeshM} {F : Nat → Prop} (h : MB w1 w mb n M F) (hb : Below w0.heap.size w0 w1) : MB w0 w mb n M F :=
  ⟨h.at_, fun i hi => Nat.le_trans hb.size (h.new i hi), hb.trans (h.keep.mono hb.size)⟩
theorem MB.flt {w0 w : World} {mb n : Nat} {M : MeshM} {F : Nat → Prop} (h : MB w0 w mb n M F) : ∀ g, F g → g < w.heap.size := h.at_.flt

theorem KCells.tri {w : World} {ad : Option Addr} {l : List Tri3} (h : KCells encT w ad l) {k : Nat} (hk : k < l.length) : ∃ g, ad = some ⟨g, 0, none⟩ ∧ g < w.heap.size ∧
    w.cell? ⟨g, k * 3, none⟩ = some (.int .i64 (l.getD k (0, 0, 0)).1) ∧ w.cell? ⟨g, k * 3 + 1, none⟩ = some (.int .i64 (l.getD k (0, 0, 0)).2.1) ∧ w.cell? ⟨g, k * 3 + 2, none⟩ = some (.int .i64 (l.getD k (0, 0, 0)).2.2) := by
  obtain ⟨g, rfl, hg, hc⟩ := h (by omega)
  have e : l.getD k (0, 0, 0) = l[k] := by rw [List.getD_eq_getElem?_getD, List.getElem?_eq_getElem hk]; rfl
  have a := cellsK_at encT_len l k hk
  refine ⟨g, rfl, hg, hc _ _ ?_, hc _ _ ?_, hc _ _ ?_⟩
  · rw [e]; have := a 0 (by omega); rw [Nat.add_zero] at this; exact this
  · rw [e]; exact a 1 (by omega)
  · rw [e]; exact a 2 (by omega)
theorem KCells.pair {w : World} {ad : Option Addr} {l : List (Int × Int)} (h : KCells encP w ad l) {k : Nat} (hk : k < l.length) : ∃ g, ad = some ⟨g, 0, none⟩ ∧ g < w.heap.size ∧
    w.cell? ⟨g, k * 2, none⟩ = some (.int .i64 (l.getD k (0, 0)).1) ∧ w.cell? ⟨g, k * 2 + 1, none⟩ = some (.int .i64 (l.getD k (0, 0)).2) := by
  obtain ⟨g, rfl, hg, hc⟩ := h (by omega)
  have e : l.getD k (0, 0) = l[k] := by rw [List.getD_eq_getElem?_getD, List.getElem?_eq_getElem hk]; rfl
  have a := cellsK_at encP_len l k hk
  refine ⟨g, rfl, hg, hc _ _ ?_, hc _ _ ?_⟩
  · rw [e]; have := a 0 (by omega); rw [Nat.add_zero] at this; exact this
  · rw [e]; exact a 1 (by omega)

set_option maxRecDepth 100000 in
set_option maxHeartbeats 1000000 in
theorem sameTris_walk (l : List Tri3) (ad bd : Option Addr) (ca cb : Nat) (w : World) (ha : KCells encT w ad l) (hb : KCells encT w bd l) (hl : l.length ≤ 1000000000000) :
    Calls Tryz.prog 25 #[.slice ad l.length ca, .slice bd l.length cb] w fun r w' => r = .returned (.bool true) ∧ Below w.heap.size w w' := by
  have HA := Lib.hid ha
  have HB := Lib.hid hb
  clear ha hb
  go_enter Tryz.func25, Tryz.ntmps25
  go_wp2
  go_loopw [5] (fun s5 wr => ∃ k : Nat, k ≤ l.length ∧ s5 = .int .i64 k ∧ Hid (Below w.heap.size w wr)) (fun i _ => l.length - (intOf i).toNat)
  case atStart => exact ⟨0, Nat.zero_le _, rfl, Below.refl _ _⟩
  case round =>
    obtain ⟨k, hk, rfl, HBW⟩ := hrel
    by_cases hlt : k < l.length
    · obtain ⟨g, rfl, hg, a0, a1, a2⟩ := (HA.out.below HBW.out).tri hlt
      obtain ⟨h, rfl, hh, b0, b1, b2⟩ := (HB.out.below HBW.out).tri hlt
      generalize l.getD k (0, 0, 0) = t at *
      obtain ⟨x, y, z⟩ := t
      dsimp only at a0 a1 a2 b0 b1 b2
      have hq := neqT_self x y z
      go_wp2
      go_region_held3 (fun w' => w' = wr.drew) (first | rfl | assumption) (fail)
      go_wp2
      go_roundw
      case rel => exact ⟨k + 1, by omega, (by first | rfl | rw [wrapS (by omega)]), HBW.out.drew⟩
      case measure => first | (simp [intOf]; omega) | (rw [wrapS (by omega)]; simp [intOf]; omega)
    · have e : k = l.length := by omega
      subst e
      clear hlt hk
      go_wp2
      go_ret
      exact ⟨rfl, HBW.out⟩

set_option maxRecDepth 100000 in
set_option maxHeartbeats 1000000 in
theorem samePairs_walk (l : List (Int × Int)) (ad bd : Option Addr) (ca cb : Nat) (w : World) (ha : KCells encP w ad l) (hb : KCells encP w bd l) (hl : l.length ≤ 1000000000000) :
    Calls Tryz.prog 42 #[.slice ad l.length ca, .slice bd l.length cb] w fun r w' => r = .returned (.bool true) ∧ Below w.heap.size w w' := by
  have HA := Lib.hid ha
  have HB := Lib.hid hb
  clear ha hb
  go_enter Tryz.func42, Tryz.ntmps42
  go_wp2
  go_loopw [5] (fun s5 wr => ∃ k : Nat, k ≤ l.length ∧ s5 = .int .i64 k ∧ Hid (Below w.heap.size w wr)) (fun i _ => l.length - (intOf i).toNat)
  case atStart => exact ⟨0, Nat.zero_le _, rfl, Below.refl _ _⟩
  case round =>
    obtain ⟨k, hk, rfl, HBW⟩ := hrel
    by_cases hlt : k < l.length
    · obtain ⟨g, rfl, hg, a0, a1⟩ := (HA.out.below HBW.out).pair hlt
      obtain ⟨h, rfl, hh, b0, b1⟩ := (HB.out.below HBW.out).pair hlt
      generalize l.getD k (0, 0) = t at *
      obtain ⟨x, y⟩ := t
      dsimp only at a0 a1 b0 b1
      have hq := neqP_self x y
      go_wp2
      go_region_held3 (fun w' => w' = wr.drew) (first | rfl | assumption) (fail)
      go_wp2
      go_roundw
      case rel => exact ⟨k + 1, by omega, (by first | rfl | rw [wrapS (by omega)]), HBW.out.drew⟩
      case measure => first | (simp [intOf]; omega) | (rw [wrapS (by omega)]; simp [intOf]; omega)
    · have e : k = l.length := by omega
      subst e
      clear hlt hk
      go_wp2
      go_ret
      exact ⟨rfl, HBW.out⟩

end Go.Proofs.YthookkmgmholcaaGreatDoor
