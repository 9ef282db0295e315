/- Part of the proof. No conditions. -/
import Derived.Test.YtdoaniccefdkaaaGreatDoorZD
import Derived.ChangeKeysEq

set_option linter.all false
/- Arrays held against each other; trivetref15.SameTris, SamePairs at one list twice. -/
namespace Go.Proofs.YtdoaniccefdkaaaGreatDoor
open Go.RowKit Go.Maps Go.WideMaps

theorem run_item (a b : Int) (d : Nat) (w : World) : (Op.equalIn (d + 1) 3 (.int .i64 a) (.int .i64 b)).run Tryz.prog w = .ok (a == b) w := run_equalIn_int w d 3 .i64 .i64 a b Tryz.underlying3
theorem run_item9 (a b : Int) (w : World) : (Op.equalIn 9999 3 (.int .i64 a) (.int .i64 b)).run Tryz.prog w = .ok (a == b) w := run_item a b 9998 w
theorem part3_0 (a b c : Int) (w : World) : (part 3 #[.int .i64 a, .int .i64 b, .int .i64 c] 0).run Tryz.prog w = .ok (.int .i64 a) w := by kernel_rfl
theorem part3_1 (a b c : Int) (w : World) : (part 3 #[.int .i64 a, .int .i64 b, .int .i64 c] 1).run Tryz.prog w = .ok (.int .i64 b) w := by kernel_rfl
theorem part3_2 (a b c : Int) (w : World) : (part 3 #[.int .i64 a, .int .i64 b, .int .i64 c] 2).run Tryz.prog w = .ok (.int .i64 c) w := by kernel_rfl
theorem part2_0 (a b : Int) (w : World) : (part 3 #[.int .i64 a, .int .i64 b] 0).run Tryz.prog w = .ok (.int .i64 a) w := by kernel_rfl
theorem part2_1 (a b : Int) (w : World) : (part 3 #[.int .i64 a, .int .i64 b] 1).run Tryz.prog w = .ok (.int .i64 b) w := by kernel_rfl
theorem cells_int : Tryz.prog.cellsOf 3 = 1 := by kernel_rfl

theorem equalT (a b c x y z : Int) (w : World) : (Op.equalIn 10000 45 (.agg #[.int .i64 a, .int .i64 b, .int .i64 c]) (.agg #[.int .i64 x, .int .i64 y, .int .i64 z])).run Tryz.prog w = .ok (a == x && (b == y && c == z)) w := by
  obtain ⟨i0, hi, hz0, hz1, hz2⟩ := info_parts infoInt
  rw [show (10000 : Nat) = 9998 + 1 + 1 from rfl, run_equalIn_array w (9998 + 1) _ _ Tryz.underlying45 hi, cells_int]
  simp only [List.range, List.range.loop, Op.eqItems, Sem.run_bind, Nat.mul_one, part3_0, Result.andThen_ok, run_item]
  cases h1 : a == x <;> cases h2 : b == y <;> cases h3 : c == z <;> simp [part3_1, part3_2, run_item9, h2, h3]
theorem equalP (a b x y : Int) (w : World) : (Op.equalIn 10000 62 (.agg #[.int .i64 a, .int .i64 b]) (.agg #[.int .i64 x, .int .i64 y])).run Tryz.prog w = .ok (a == x && b == y) w := by
  obtain ⟨i0, hi, hz0, hz1, hz2⟩ := info_parts infoInt
  rw [show (10000 : Nat) = 9998 + 1 + 1 from rfl, run_equalIn_array w (9998 + 1) _ _ Tryz.underlying62 hi, cells_int]
  simp only [List.range, List.range.loop, Op.eqItems, Sem.run_bind, Nat.mul_one, part2_0, Result.andThen_ok, run_item]
  cases h1 : a == x <;> cases h2 : b == y <;> simp [part2_1, run_item9, h2]

theorem eqlT (a b c x y z : Int) (w : World) : (binOp .eql 45 (.agg #[.int .i64 a, .int .i64 b, .int .i64 c]) (.agg #[.int .i64 x, .int .i64 y, .int .i64 z])).run Tryz.prog w = .ok (.bool (a == x && (b == y && c == z))) w := by
  rw [run_eql_struct, equalT]; rfl
theorem neqT (a b c x y z : Int) (w : World) : (binOp .neq 45 (.agg #[.int .i64 a, .int .i64 b, .int .i64 c]) (.agg #[.int .i64 x, .int .i64 y, .int .i64 z])).run Tryz.prog w = .ok (.bool !(a == x && (b == y && c == z))) w := by
  rw [run_neq_struct, equalT]; rfl
theorem neqP (a b x y : Int) (w : World) : (binOp .neq 62 (.agg #[.int .i64 a, .int .i64 b]) (.agg #[.int .i64 x, .int .i64 y])).run Tryz.prog w = .ok (.bool !(a == x && b == y)) w := by
  rw [run_neq_struct, equalP]; rfl
theorem neqT_self (a b c : Int) (w : World) : (binOp .neq 45 (.agg #[.int .i64 a, .int .i64 b, .int .i64 c]) (.agg #[.int .i64 a, .int .i64 b, .int .i64 c])).run Tryz.prog w = .ok (.bool false) w := by rw [neqT]; simp
theorem neqP_self (a b : Int) (w : World) : (binOp .neq 62 (.agg #[.int .i64 a, .int .i64 b]) (.agg #[.int .i64 a, .int .i64 b])).run Tryz.prog w = .ok (.bool false) w := by rw [neqP]; simp

theorem MB.from {w0 w1 w : World} {mb n : Nat} {M : MeshM} {F : Nat → Prop} (h : MB w1 w mb n M F) (hb : Below w0.heap.size w0 w1) : MB w0 w mb n M F :=
  ⟨h.at_, fun i hi => Nat.le_trans hb.size (h.new i hi), hb.trans (h.keep.mono hb.size)⟩
theorem MB.flt {w0 w : World} {mb n : Nat} {M : MeshM} {F : Nat → Prop} (h : MB w0 w mb n M F) : ∀ g, F g → g < w.heap.size := h.at_.flt

theorem KCells.tri {w : World} {ad : Option Addr} {l : List Tri3} (h : KCells encT w ad l) {k : Nat} (hk : k < l.length) : ∃ g, ad = some ⟨g, 0, none⟩ ∧ g < w.heap.size ∧
    w.cell? ⟨g, k * 3, none⟩ = some (.int .i64 (l.getD k (0, 0, 0)).1) ∧ w.cell? ⟨g, k * 3 + 1, none⟩ = some (.int .i64 (l.getD k (0, 0, 0)).2.1) ∧ w.cell? ⟨g, k * 3 + 2, none⟩ = some (.int .i64 (l.getD k (0, 0, 0)).2.2) := by
  obtain ⟨g, rfl, hg, hc⟩ := h (by omega)
  have e : l.getD k (0, 0, 0) = l[k] := by rw [List.getD_eq_getElem?_getD, List.getElem?_eq_getElem hk]; rfl
  have a := cellsK_at encT_len l k hk
  refine ⟨g, rfl, hg, hc _ _ ?_, hc _ _ ?_, hc _ _ ?_⟩
  · rw [e]; have := a 0 (by omega); rw [Nat.add_zero] at this; exact this
  · rw [e]; exact a 1 (by omega)
  · rw [e]; exact a 2 (by omega)
theorem KCells.pair {w : World} {ad : Option Addr} {l : List (Int × Int)} (h : KCells encP w ad l) {k : Nat} (hk : k < l.length) : ∃ g, ad = some ⟨g, 0, none⟩ ∧ g < w.heap.size ∧
    w.cell? ⟨g, k * 2, none⟩ = some (.int .i64 (l.getD k (0, 0)).1) ∧ w.cell? ⟨g, k * 2 + 1, none⟩ = some (.int .i64 (l.getD k (0, 0)).2) := by
  obtain ⟨g, rfl, hg, hc⟩ := h (by omega)
  have e : l.getD k (0, 0) = l[k] := by rw [List.getD_eq_getElem?_getD, List.getElem?_eq_getElem hk]; rfl
  have a := cellsK_at encP_len l k hk
  refine ⟨g, rfl, hg, hc _ _ ?_, hc _ _ ?_⟩
  · rw [e]; have := a 0 (by omega); rw [Nat.add_zero] at this; exact this
  · rw [e]; exact a 1 (by omega)

set_option maxRecDepth 100000 in
set_option maxHeartbeats 1000000 in
theorem sameTris_walk (l : List Tri3) (ad bd : Option Addr) (ca cb : Nat) (w : World) (ha : KCells encT w ad l) (hb : KCells encT w bd l) (hl : l.length ≤ 1000000000000) :
    Calls Tryz.prog 21 #[.slice ad l.length ca, .slice bd l.length cb] w fun r w' => r = .returned (.bool true) ∧ Below w.heap.size w w' := by
  have HA := Lib.hid ha
  have HB := Lib.hid hb
  clear ha hb
  go_enter Tryz.func21, Tryz.ntmps21
  go_wp2
  go_loopw [5] (fun s5 wr => ∃ k : Nat, k ≤ l.length ∧ s5 = .int .i64 k ∧ Hid (Below w.heap.size w wr)) (fun i _ => l.length - (intOf i).toNat)
  case atStart => exact ⟨0, Nat.zero_le _, rfl, Below.refl _ _⟩
  case round =>
    obtain ⟨k, hk, rfl, HBW⟩ := hrel
    by_cases hlt : k < l.length
    · obtain ⟨g, rfl, hg, a0, a1, a2⟩ := (HA.out.below HBW.out).tri hlt
      obtain ⟨h, rfl, hh, b0, b1, b2⟩ := (HB.out.below HBW.out).tri hlt
      generalize l.getD k (0, 0, 0) = t at *
      obtain ⟨x, y, z⟩ := t
      dsimp only at a0 a1 a2 b0 b1 b2
      have hq := neqT_self x y z
      go_wp2
      go_region_held3 (fun w' => w' = wr.drew) (first | rfl | assumption) (fail)
      go_wp2
      go_roundw
      case rel => exact ⟨k + 1, by omega, (by first | rfl | rw [wrapS (by omega)]), HBW.out.drew⟩
      case measure => first | (simp [intOf]; omega) | (rw [wrapS (by omega)]; simp [intOf]; omega)
    · have e : k = l.length := by omega
      subst e
      clear hlt hk
      go_wp2
      go_ret
      exact ⟨rfl, HBW.out⟩

set_option maxRecDepth 100000 in
set_option maxHeartbeats 1000000 in
theorem samePairs_walk (l : List (Int × Int)) (ad bd : Option Addr) (ca cb : Nat) (w : World) (ha : KCells encP w ad l) (hb : KCells encP w bd l) (hl : l.length ≤ 1000000000000) :
    Calls Tryz.prog 77 #[.slice ad l.length ca, .slice bd l.length cb] w fun r w' => r = .returned (.bool true) ∧ Below w.heap.size w w' := by
  have HA := Lib.hid ha
  have HB := Lib.hid hb
  clear ha hb
  go_enter Tryz.func77, Tryz.ntmps77
  go_wp2
  go_loopw [5] (fun s5 wr => ∃ k : Nat, k ≤ l.length ∧ s5 = .int .i64 k ∧ Hid (Below w.heap.size w wr)) (fun i _ => l.length - (intOf i).toNat)
  case atStart => exact ⟨0, Nat.zero_le _, rfl, Below.refl _ _⟩
  case round =>
    obtain ⟨k, hk, rfl, HBW⟩ := hrel
    by_cases hlt : k < l.length
    · obtain ⟨g, rfl, hg, a0, a1⟩ := (HA.out.below HBW.out).pair hlt
      obtain ⟨h, rfl, hh, b0, b1⟩ := (HB.out.below HBW.out).pair hlt
      generalize l.getD k (0, 0) = t at *
      obtain ⟨x, y⟩ := t
      dsimp only at a0 a1 b0 b1
      have hq := neqP_self x y
      go_wp2
      go_region_held3 (fun w' => w' = wr.drew) (first | rfl | assumption) (fail)
      go_wp2
      go_roundw
      case rel => exact ⟨k + 1, by omega, (by first | rfl | rw [wrapS (by omega)]), HBW.out.drew⟩
      case measure => first | (simp [intOf]; omega) | (rw [wrapS (by omega)]; simp [intOf]; omega)
    · have e : k = l.length := by omega
      subst e
      clear hlt hk
      go_wp2
      go_ret
      exact ⟨rfl, HBW.out⟩

end Go.Proofs.YtdoaniccefdkaaaGreatDoor
