/- Equal lists of numbers, equal points. -/
import Derived.Test.YtdoaniccefdkaaaGreatDoorZc
import Derived.Test.YtdoaniccefdkaaaGreatDoorZP
set_option linter.all false
namespace Go.Proofs.YtdoaniccefdkaaaGreatDoor
open Go.RowKit Tvf Go.Maps Go.WideMaps

theorem eqFields_all {P : Program} (d : Nat) (xs : Array Value) : ∀ (fs : List Field) (w : World), (∀ f, f ∈ fs → ∃ a, (∀ w, (part f.type xs f.offset).run P w = .ok a w) ∧ ∀ w, (Op.equalIn d f.type a a).run P w = .ok true w) → (Op.eqFields d xs xs fs).run P w = .ok true w
  | [], w, _ => by simp [Op.eqFields]
  | f :: r, w, h => by
    obtain ⟨a, h1, h2⟩ := h f (by simp)
    have ih := eqFields_all d xs r w (fun g hg => h g (by simp [hg]))
    unfold Op.eqFields
    split
    · simp only [Sem.run_bind, h1, h2, Result.andThen_ok, Bool.not_true, Bool.false_eq_true, if_false]
      exact ih
    · exact ih

theorem partF_0 (a b : Nat) (w : World) : (part 50 #[.float .f64 a, .float .f64 b] 0).run Tryz.prog w = .ok (.float .f64 a) w := by kernel_rfl
theorem partF_1 (a b : Nat) (w : World) : (part 50 #[.float .f64 a, .float .f64 b] 1).run Tryz.prog w = .ok (.float .f64 b) w := by kernel_rfl
theorem run_equalIn_floatG {P : Program} (w : World) (d : Nat) (t : TypeId) (k k' : FloatKind) (a : Nat) (h : P.underlying t = some (.float k)) (e : Op.floatEq k' a a = true) : (Op.equalIn (d + 1) t (.float k' a) (.float k' a)).run P w = .ok true w := by
  simp [Op.equalIn, run_underlying h, e]
theorem run_itemF (a : Nat) (h : feq a a = true) (w : World) : (Op.equalIn 9999 50 (.float .f64 a) (.float .f64 a)).run Tryz.prog w = .ok true w := by
  exact run_equalIn_floatG w 9998 _ _ _ a Tryz.underlying50 h
theorem ptFields : (Tryz.prog.fieldsOf 52).toList.map (fun f => (f.type, f.offset)) = [(50, 0), (50, 1)] := by kernel_rfl
theorem ptHeld : Tryz.prog.stoodInHeld 52 = false := by kernel_rfl
theorem ptStruct : Tryz.prog.underlying 52 = some (.struct (Tryz.prog.fieldsOf 52)) := by kernel_rfl
theorem neqPt (x y : Nat) (hx : feq x x = true) (hy : feq y y = true) (w : World) : (binOp .neq 52 (.agg #[.float .f64 x, .float .f64 y]) (.agg #[.float .f64 x, .float .f64 y])).run Tryz.prog w = .ok (.bool false) w := by
  rw [run_neq_struct, show (10000 : Nat) = 9999 + 1 from rfl, run_equalIn_struct w 9999 _ _ _ ptStruct ptHeld, eqFields_all]
  · rfl
  · intro f hf
    have hm : (f.type, f.offset) ∈ [((50 : TypeId), (0 : Nat)), (50, 1)] := by
      rw [← ptFields]; exact List.mem_map.2 ⟨f, hf, rfl⟩
    simp only [List.mem_cons, List.not_mem_nil, or_false, Prod.mk.injEq] at hm
    rcases hm with ⟨h1, h2⟩ | ⟨h1, h2⟩
    · rw [h1, h2]; exact ⟨_, partF_0 x y, run_itemF x hx⟩
    · rw [h1, h2]; exact ⟨_, partF_1 x y, run_itemF y hy⟩

def encI (z : Int) : List Value := [.int .i64 z]
theorem encI_one (z : Int) : ∀ u ∈ encI z, u.oneCell' = true := by
  intro u hu
  simp only [encI, List.mem_cons, List.not_mem_nil, or_false] at hu
  subst hu; rfl
theorem cellsI (l : List Int) : cellsK encI l = l.map (Value.int .i64) := by
  induction l with
  | nil => rfl
  | cons x r ih => unfold cellsK at *; rw [List.flatMap_cons, ih]; rfl
theorem KCells.num {w : World} {ad : Option Addr} {l : List Int} (h : KCells encI w ad l) {k : Nat} (hk : k < l.length) : ∃ g, ad = some ⟨g, 0, none⟩ ∧ w.cell? ⟨g, k, none⟩ = some (.int .i64 (l.getD k 0)) := by
  obtain ⟨g, rfl, hg, hc⟩ := h (by omega)
  refine ⟨g, rfl, hc k _ ?_⟩
  rw [cellsI, List.getElem?_map, List.getD_eq_getElem?_getD, List.getElem?_eq_getElem hk]; rfl

set_option maxRecDepth 100000 in
set_option maxHeartbeats 1000000 in
theorem ints07 (l : List Int) (ad bd : Option Addr) (ca cb : Nat) (w : World) (ha : KCells encI w ad l) (hb : KCells encI w bd l) (hl : l.length ≤ 1000000000000) :
    Calls Tryz.prog 83 #[.slice ad l.length ca, .slice bd l.length cb] w fun r w' => r = .returned (.bool true) ∧ Below w.heap.size w w' := by
  have HA := Lib.hid ha
  have HB := Lib.hid hb
  clear ha hb
  go_enter Tryz.func83, Tryz.ntmps83
  go_wp2
  go_loopw [5] (fun s5 wr => ∃ k : Nat, k ≤ l.length ∧ s5 = .int .i64 k ∧ Hid (Below w.heap.size w wr)) (fun i _ => l.length - (intOf i).toNat)
  case atStart => exact ⟨0, Nat.zero_le _, rfl, Below.refl _ _⟩
  case round =>
    obtain ⟨k, hk, rfl, HBW⟩ := hrel
    by_cases hlt : k < l.length
    · obtain ⟨g, rfl, a0⟩ := (HA.out.below HBW.out).num hlt
      obtain ⟨h, rfl, b0⟩ := (HB.out.below HBW.out).num hlt
      generalize l.getD k 0 = x at *
      have hkz : (k : Int) < (l.length : Int) := by omega
      have hk0 : (0 : Int) ≤ (k : Int) := by omega
      go_upto_region 6 with fail
      go_quiet (fail)
      go_wp2
      go_roundw
      case rel => exact ⟨k + 1, by omega, (by first | rfl | rw [wrapS (by omega)]), below_q15 HBW.out nq⟩
      case measure => first | (simp [intOf]; omega) | (rw [wrapS (by omega)]; simp [intOf]; omega)
    · have e : k = l.length := by omega
      subst e
      clear hlt hk
      go_wp2
      go_ret
      exact ⟨rfl, HBW.out⟩

set_option maxRecDepth 100000 in
set_option maxHeartbeats 1000000 in
theorem sameSegs_nil (w : World) (ca cb : Nat) :
    Calls Tryz.prog 81 #[.slice none 0 ca, .slice none 0 cb] w fun r w' => r = .returned (.bool true) ∧ Below w.heap.size w w' := by
  go_enter Tryz.func81, Tryz.ntmps81
  go_wp2
  go_loopw [5] (fun s5 wr => s5 = .int .i64 0 ∧ wr = w) (fun i _ => 0)
  case atStart => exact ⟨rfl, rfl⟩
  case round =>
    obtain ⟨rfl, rfl⟩ := hrel
    go_wp2
    go_ret
    exact ⟨rfl, Below.refl _ _⟩

set_option maxRecDepth 100000 in
set_option maxHeartbeats 1000000 in
theorem fixed15_nil {w : World} {B xb : Nat} {P : List Pt} {ad : Option Addr} {cap : Nat} {T : List Tri3} {vT : Value} {vS : Value} (h : RMs w B xb P ad cap T vT [] vS) (a b : Int) :
    Calls Tryz.prog 86 #[.pointer (some ⟨xb, 0, none⟩), .int .i64 a, .int .i64 b] w fun r w' => r = .returned (.tuple #[.int .i64 0, .bool false]) ∧ Below w.heap.size w w' := by
  have c2 := h.cells.2.2
  obtain ⟨g, cp, rfl⟩ : ∃ g cp, vS = .slice g 0 cp := by
    rcases h.seg.2 with ⟨rfl, h0⟩ | ⟨g, cp, cur, rfl, _⟩
    · exact ⟨none, 0, rfl⟩
    · exact ⟨_, _, rfl⟩
  clear h
  go_enter Tryz.func86, Tryz.ntmps86
  go_wp2
  go_loopw [8] (fun s8 wr => s8 = .int .i64 0 ∧ wr = w) (fun i _ => 0)
  case atStart => exact ⟨rfl, rfl⟩
  case round =>
    obtain ⟨rfl, rfl⟩ := hrel
    go_wp2
    refine bodyPost_ret (by simp [results, Tryz.results86, go_sem]; try rfl) rfl ?_
    exact ⟨rfl, Below.refl _ _⟩

end Go.Proofs.YtdoaniccefdkaaaGreatDoor
